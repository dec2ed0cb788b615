import Derived.Test.YtmcgfkkagijcmaaProg
import Derived.Test.YtmcgfkkagijcmaaLc
import Derived.KernelRfl
import Derived.Shelf.SortM.Plain
import Derived.Shelf.SortM.SortNone
import Derived.Shelf.SlIter.Nil
import Derived.Ground.GgzProg
import Derived.Ground.SlgmProg
import Derived.Shelf.SlGeneric
namespace Go.Proofs.Ytmcgfkkagijcmaa
open Go.Own
instance : Tabs := ⟨fun _ => none⟩
/-- What is told of the types. -/
def tab : Tab := [
  (3, { desc := .int .i64, size := 1, bytes := 8, zero := .int .i64 0 }),
  (4, { desc := .bool, size := 1, bytes := 1, zero := .bool false }),
  (9, { desc := .string, size := 1, bytes := 16, zero := .string ⟨#[]⟩ }),
  (22, { desc := .slice 45, size := 1, bytes := 24, zero := .slice none 0 0 }),
  (23, { desc := .slice 24, size := 1, bytes := 24, zero := .slice none 0 0 }),
  (24, { desc := .slice 3, size := 1, bytes := 24, zero := .slice none 0 0 }),
  (27, { desc := .int .i64, size := 1, bytes := 8, zero := .int .i64 0 }),
  (33, { desc := .slice 35, size := 1, bytes := 24, zero := .slice none 0 0 }),
  (35, { desc := .slice 4, size := 1, bytes := 24, zero := .slice none 0 0 }),
  (37, { desc := .slice 50, size := 1, bytes := 24, zero := .slice none 0 0 }),
  (38, { desc := .slice 40, size := 1, bytes := 24, zero := .slice none 0 0 }),
  (40, { desc := .struct #[{ name := "Op", type := 3, offset := 0, embedded := false, tag := "", pkgPath := "", byteOffset := 0 }, { name := "N", type := 3, offset := 1, embedded := false, tag := "", pkgPath := "", byteOffset := 8 }, { name := "Unit", type := 3, offset := 2, embedded := false, tag := "", pkgPath := "", byteOffset := 16 }, { name := "S", type := 9, offset := 3, embedded := false, tag := "", pkgPath := "", byteOffset := 24 }, { name := "Args", type := 38, offset := 4, embedded := false, tag := "", pkgPath := "", byteOffset := 40 }], size := 5, bytes := 64, zero := .agg #[.int .i64 0, .int .i64 0, .int .i64 0, .string ⟨#[]⟩, .slice none 0 0] }),
  (41, { desc := .slice 48, size := 1, bytes := 24, zero := .slice none 0 0 }),
  (42, { desc := .slice 9, size := 1, bytes := 24, zero := .slice none 0 0 }),
  (43, { desc := .slice 117, size := 1, bytes := 24, zero := .slice none 0 0 }),
  (45, { desc := .struct #[{ name := "Name", type := 9, offset := 0, embedded := false, tag := "", pkgPath := "", byteOffset := 0 }, { name := "Issuer", type := 9, offset := 1, embedded := false, tag := "", pkgPath := "", byteOffset := 16 }, { name := "Face", type := 3, offset := 2, embedded := false, tag := "", pkgPath := "", byteOffset := 32 }, { name := "From", type := 3, offset := 3, embedded := false, tag := "", pkgPath := "", byteOffset := 40 }, { name := "To", type := 3, offset := 4, embedded := false, tag := "", pkgPath := "", byteOffset := 48 }, { name := "Every", type := 3, offset := 5, embedded := false, tag := "", pkgPath := "", byteOffset := 56 }, { name := "Count", type := 3, offset := 6, embedded := false, tag := "", pkgPath := "", byteOffset := 64 }, { name := "Adjust", type := 3, offset := 7, embedded := false, tag := "", pkgPath := "", byteOffset := 72 }, { name := "Record", type := 3, offset := 8, embedded := false, tag := "", pkgPath := "", byteOffset := 80 }, { name := "Rank", type := 3, offset := 9, embedded := false, tag := "", pkgPath := "", byteOffset := 88 }, { name := "Lets", type := 37, offset := 10, embedded := false, tag := "", pkgPath := "", byteOffset := 96 }, { name := "Coupon", type := 40, offset := 11, embedded := false, tag := "", pkgPath := "", byteOffset := 120 }, { name := "Cap", type := 3, offset := 16, embedded := false, tag := "", pkgPath := "", byteOffset := 184 }, { name := "Covenants", type := 41, offset := 17, embedded := false, tag := "", pkgPath := "", byteOffset := 192 }, { name := "Favour", type := 42, offset := 18, embedded := false, tag := "", pkgPath := "", byteOffset := 216 }, { name := "Cross", type := 3, offset := 19, embedded := false, tag := "", pkgPath := "", byteOffset := 240 }, { name := "Calls", type := 43, offset := 20, embedded := false, tag := "", pkgPath := "", byteOffset := 248 }, { name := "Notice", type := 3, offset := 21, embedded := false, tag := "", pkgPath := "", byteOffset := 272 }, { name := "Sink", type := 3, offset := 22, embedded := false, tag := "", pkgPath := "", byteOffset := 280 }, { name := "Majority", type := 3, offset := 23, embedded := false, tag := "", pkgPath := "", byteOffset := 288 }, { name := "Fast", type := 3, offset := 24, embedded := false, tag := "", pkgPath := "", byteOffset := 296 }], size := 25, bytes := 304, zero := .agg #[.string ⟨#[]⟩, .string ⟨#[]⟩, .int .i64 0, .int .i64 0, .int .i64 0, .int .i64 0, .int .i64 0, .int .i64 0, .int .i64 0, .int .i64 0, .slice none 0 0, .int .i64 0, .int .i64 0, .int .i64 0, .string ⟨#[]⟩, .slice none 0 0, .int .i64 0, .slice none 0 0, .slice none 0 0, .int .i64 0, .slice none 0 0, .int .i64 0, .int .i64 0, .int .i64 0, .int .i64 0] }),
  (48, { desc := .struct #[{ name := "Name", type := 9, offset := 0, embedded := false, tag := "", pkgPath := "", byteOffset := 0 }, { name := "Must", type := 40, offset := 1, embedded := false, tag := "", pkgPath := "", byteOffset := 16 }, { name := "Grace", type := 3, offset := 6, embedded := false, tag := "", pkgPath := "", byteOffset := 80 }], size := 7, bytes := 88, zero := .agg #[.string ⟨#[]⟩, .int .i64 0, .int .i64 0, .int .i64 0, .string ⟨#[]⟩, .slice none 0 0, .int .i64 0] }),
  (50, { desc := .struct #[{ name := "Name", type := 9, offset := 0, embedded := false, tag := "", pkgPath := "", byteOffset := 0 }, { name := "Body", type := 40, offset := 1, embedded := false, tag := "", pkgPath := "", byteOffset := 16 }], size := 6, bytes := 80, zero := .agg #[.string ⟨#[]⟩, .int .i64 0, .int .i64 0, .int .i64 0, .string ⟨#[]⟩, .slice none 0 0] }),
  (55, { desc := .map 9 3, size := 1, bytes := 8, zero := .map none }),
  (64, { desc := .map 9 4, size := 1, bytes := 8, zero := .map none }),
  (65, { desc := .func #[40] #[] false, size := 1, bytes := 8, zero := .nilFunc }),
  (117, { desc := .struct #[{ name := "From", type := 3, offset := 0, embedded := false, tag := "", pkgPath := "", byteOffset := 0 }, { name := "Price", type := 3, offset := 1, embedded := false, tag := "", pkgPath := "", byteOffset := 8 }], size := 2, bytes := 16, zero := .agg #[.int .i64 0, .int .i64 0] })]

theorem tabOk : TabOk Try.prog tab := tabOk_of ⟨by kernel_rfl, by kernel_rfl, by kernel_rfl, by kernel_rfl, by kernel_rfl, by kernel_rfl, by kernel_rfl, by kernel_rfl, by kernel_rfl, by kernel_rfl, by kernel_rfl, by kernel_rfl, by kernel_rfl, by kernel_rfl, by kernel_rfl, by kernel_rfl, by kernel_rfl, by kernel_rfl, by kernel_rfl, by kernel_rfl, by kernel_rfl, by kernel_rfl, trivial⟩

theorem mixed : Try.prog.follows .mixedOrders = true := by kernel_rfl

noncomputable abbrev cx (N : Nat) (keep : List Nat) : Cx := ⟨Try.prog, tab, N, keep, 0, false⟩
theorem cxOk (N : Nat) (keep : List Nat) : CxOk (cx N keep) := ⟨tabOk, mixed⟩
noncomputable abbrev cxP (pn N : Nat) (keep : List Nat) : Cx := ⟨Try.prog, tab, N, keep, pn, false⟩
theorem cxPOk (pn N : Nat) (keep : List Nat) : CxOk (cxP pn N keep) := ⟨tabOk, mixed⟩

/-! ### Expressions, indentures -/
inductive Exp where
  | mk (op n unit : Int) (s : List UInt8) (args : List Exp)
def Exp.op : Exp → Int | .mk a _ _ _ _ => a
def Exp.n : Exp → Int | .mk _ a _ _ _ => a
def Exp.unit : Exp → Int | .mk _ _ a _ _ => a
def Exp.s : Exp → List UInt8 | .mk _ _ _ a _ => a
def Exp.args : Exp → List Exp | .mk _ _ _ _ a => a
mutual
def encT : Exp → AV
  | .mk op n unit s args => .agg [.int .i64 op, .int .i64 n, .int .i64 unit, .str s, .lsl 5 (encTs args)]
def encTs : List Exp → List AV
  | [] => []
  | e :: l => encT e :: encTs l
end
def argsE (e : Exp) : List AV := encTs e.args
def encE (e : Exp) : AV := .agg [.int .i64 e.op, .int .i64 e.n, .int .i64 e.unit, .str e.s, .lsl 5 (argsE e)]
theorem encT_eq (e : Exp) : encT e = encE e := by
  cases e
  rw [encT]
  rfl
theorem encTs_eq : ∀ l : List Exp, encTs l = l.map encE
  | [] => by rw [encTs]; rfl
  | e :: l => by rw [encTs, encT_eq, encTs_eq l]; rfl
theorem argsE_eq (e : Exp) : argsE e = e.args.map encE := encTs_eq e.args
theorem argsE_len (e : Exp) : (argsE e).length = e.args.length := by rw [argsE_eq, List.length_map]
def ex0 : Exp := .mk 0 0 0 [] []
instance : Inhabited Exp := ⟨ex0⟩
theorem argsE_get (e : Exp) {k : Nat} (h : k < e.args.length) : (argsE e).getD k .undef = encE (e.args.getD k ex0) := by
  rw [argsE_eq, List.getD_eq_getElem?_getD, List.getD_eq_getElem?_getD, List.getElem?_map, List.getElem?_eq_getElem h]
  rfl
/-- An argument is smaller. -/
theorem args_lt (e : Exp) {x : Exp} (h : x ∈ e.args) : SizeOf.sizeOf x < SizeOf.sizeOf e := by
  cases e with
  | mk a b c d l =>
    have h1 := List.sizeOf_lt_of_mem (show x ∈ l from h)
    simp only [Exp.mk.sizeOf_spec]
    omega

def encI (n : Int) : AV := .int .i64 n
def encIs (l : List Int) : AV := .sl 1 encI 0 l
def encB (b : Bool) : AV := .bool b
def encS (s : List UInt8) : AV := .str s
structure LetE where
  name : List UInt8
  body : Exp
def l0 : LetE := ⟨[], ex0⟩
instance : Inhabited LetE := ⟨l0⟩
def encL (x : LetE) : AV := .agg [.str x.name, .int .i64 x.body.op, .int .i64 x.body.n, .int .i64 x.body.unit, .str x.body.s, .lsl 5 (argsE x.body)]
structure Cov where
  name : List UInt8
  must : Exp
  grace : Int
def c0 : Cov := ⟨[], ex0, 0⟩
instance : Inhabited Cov := ⟨c0⟩
def encC (x : Cov) : AV := .agg [.str x.name, .int .i64 x.must.op, .int .i64 x.must.n, .int .i64 x.must.unit, .str x.must.s, .lsl 5 (argsE x.must), .int .i64 x.grace]
structure CallE where
  a : Int
  b : Int
def k0 : CallE := ⟨0, 0⟩
instance : Inhabited CallE := ⟨k0⟩
def encK (x : CallE) : AV := .agg [.int .i64 x.a, .int .i64 x.b]
structure Ind where
  name : List UInt8
  issuer : List UInt8
  face : Int
  frm : Int
  to : Int
  every : Int
  count : Int
  adjust : Int
  record : Int
  rank : Int
  lets : List LetE
  coupon : Exp
  cap : Int
  cov : List Cov
  favour : List (List UInt8)
  cross : Int
  calls : List CallE
  notice : Int
  sink : Int
  majority : Int
  fast : Int
def i0 : Ind := ⟨[], [], 0, 0, 0, 0, 0, 0, 0, 0, [], ex0, 0, [], [], 0, [], 0, 0, 0, 0⟩
instance : Inhabited Ind := ⟨i0⟩
def celX (x : Ind) : List AV := [.str x.name, .str x.issuer, .int .i64 x.face, .int .i64 x.frm, .int .i64 x.to, .int .i64 x.every, .int .i64 x.count, .int .i64 x.adjust, .int .i64 x.record, .int .i64 x.rank,
  .sl 6 encL l0 x.lets, .int .i64 x.coupon.op, .int .i64 x.coupon.n, .int .i64 x.coupon.unit, .str x.coupon.s, .lsl 5 (argsE x.coupon), .int .i64 x.cap, .sl 7 encC c0 x.cov, .sl 1 encS [] x.favour, .int .i64 x.cross, .sl 2 encK k0 x.calls,
  .int .i64 x.notice, .int .i64 x.sink, .int .i64 x.majority, .int .i64 x.fast]
def encX (x : Ind) : AV := .agg [.str x.name, .str x.issuer, .int .i64 x.face, .int .i64 x.frm, .int .i64 x.to, .int .i64 x.every, .int .i64 x.count, .int .i64 x.adjust, .int .i64 x.record, .int .i64 x.rank,
  .sl 6 encL l0 x.lets, .int .i64 x.coupon.op, .int .i64 x.coupon.n, .int .i64 x.coupon.unit, .str x.coupon.s, .lsl 5 (argsE x.coupon), .int .i64 x.cap, .sl 7 encC c0 x.cov, .sl 1 encS [] x.favour, .int .i64 x.cross, .sl 2 encK k0 x.calls,
  .int .i64 x.notice, .int .i64 x.sink, .int .i64 x.majority, .int .i64 x.fast]
def encXs (l : List Ind) : AV := .sl 25 encX i0 l

end Go.Proofs.Ytmcgfkkagijcmaa

namespace Go.Proofs.Ytmcgfkkagijcmaa
open Go.Own

def in64 (n : Int) : Prop := -9223372036854775808 ≤ n ∧ n ≤ 9223372036854775807
/-- An expression whose numbers and lengths are those of the machine. -/
inductive OkE : Exp → Prop
  | mk {e : Exp} (op : in64 e.op) (n : in64 e.n) (unit : in64 e.unit) (s : e.s.length ≤ 9223372036854775807) (len : e.args.length ≤ 9223372036854775807) (args : ∀ a ∈ e.args, OkE a) : OkE e
theorem OkE.slen {e : Exp} (h : OkE e) : e.s.length ≤ 9223372036854775807 := by cases h; assumption
theorem OkE.alen {e : Exp} (h : OkE e) : e.args.length ≤ 9223372036854775807 := by cases h; assumption
theorem OkE.arg {e : Exp} (h : OkE e) : ∀ a ∈ e.args, OkE a := by cases h; assumption
/-! ### What the coupon of an indenture reaches -/
def bodyOf (lets : List LetE) (s : List UInt8) : Option Exp := (lets.find? (fun l => decide (l.name = s))).map (·.body)
inductive Sub : Exp → Exp → Prop
  | refl (e : Exp) : Sub e e
  | arg {e a x : Exp} (h : a ∈ e.args) (t : Sub a x) : Sub e x
inductive Reach (lets : List LetE) : Exp → Exp → Prop
  | refl (e : Exp) : Reach lets e e
  | arg {e a x : Exp} (h : a ∈ e.args) (t : Reach lets a x) : Reach lets e x
  | body {e b x : Exp} (h : e.op = 1) (hb : bodyOf lets e.s = some b) (t : Reach lets b x) : Reach lets e x
theorem Sub.reach {lets : List LetE} {e x : Exp} (h : Sub e x) : Reach lets e x := by
  induction h with
  | refl e => exact .refl e
  | arg h _ ih => exact .arg h ih
def Cvd (N S : List (List UInt8)) (e : Exp) : Prop := ∀ x, Sub e x → (x.op = 3 → x.s ∈ N) ∧ (x.op = 1 → x.s ∈ S)
theorem Cvd.le {N S N' S' : List (List UInt8)} {e : Exp} (h : Cvd N S e) (hn : ∀ s ∈ N, s ∈ N') (hs : ∀ s ∈ S, s ∈ S') : Cvd N' S' e :=
  fun x hx => ⟨fun h3 => hn _ ((h x hx).1 h3), fun h1 => hs _ ((h x hx).2 h1)⟩
/-- What is added on the way. -/
structure Grow (lets : List LetE) (e : Exp) (N S N' S' : List (List UInt8)) : Prop where
  n_le : ∀ s ∈ N, s ∈ N'
  s_le : ∀ s ∈ S, s ∈ S'
  body : ∀ s ∈ S', s ∉ S → ∀ b, bodyOf lets s = some b → Cvd N' S' b
  sound : ∀ s ∈ N', s ∈ N ∨ ∃ x, Reach lets e x ∧ x.op = 3 ∧ x.s = s
  ndn : N.Nodup → N'.Nodup
  nds : S.Nodup → S'.Nodup
/-- What a walk through an expression does. -/
structure Post (lets : List LetE) (e : Exp) (N S N' S' : List (List UInt8)) : Prop where
  grow : Grow lets e N S N' S'
  cov : Cvd N' S' e
theorem Grow.refl (lets : List LetE) (e : Exp) (N S : List (List UInt8)) : Grow lets e N S N S :=
  ⟨fun _ h => h, fun _ h => h, fun _ h hn => absurd h hn, fun _ h => .inl h, fun h => h, fun h => h⟩
theorem Grow.trans {lets : List LetE} {e e1 : Exp} {N S N1 S1 N2 S2 : List (List UInt8)} (h : Grow lets e N S N1 S1) (k : Post lets e1 N1 S1 N2 S2) (hr : ∀ x, Reach lets e1 x → Reach lets e x) : Grow lets e N S N2 S2 := by
  refine ⟨fun s hs => k.grow.n_le s (h.n_le s hs), fun s hs => k.grow.s_le s (h.s_le s hs), fun s hs hn b hb => ?_, fun s hs => ?_, fun hd => k.grow.ndn (h.ndn hd), fun hd => k.grow.nds (h.nds hd)⟩
  · by_cases h1 : s ∈ S1
    · exact (h.body s h1 hn b hb).le k.grow.n_le k.grow.s_le
    · exact k.grow.body s hs h1 b hb
  · rcases k.grow.sound s hs with h1 | ⟨x, hx, h2, h3⟩
    · exact h.sound s h1
    · exact .inr ⟨x, hr x hx, h2, h3⟩

def addS (N : List (List UInt8)) (s : List UInt8) : List (List UInt8) := if s ∈ N then N else N ++ [s]
theorem addS_mem {N : List (List UInt8)} {s a : List UInt8} : a ∈ addS N s ↔ a ∈ N ∨ a = s := by
  unfold addS
  split
  · rename_i h
    constructor
    · exact .inl
    · rintro (h1 | rfl)
      · exact h1
      · exact h
  · simp
theorem addS_nd {N : List (List UInt8)} {s : List UInt8} (h : N.Nodup) : (addS N s).Nodup := by
  unfold addS
  split
  · exact h
  · rename_i hn
    refine List.nodup_append.2 ⟨h, by simp, fun a ha b hb => ?_⟩
    simp only [List.mem_singleton] at hb
    subst hb
    exact fun e => hn (e ▸ ha)
def tt (N : List (List UInt8)) : List (List UInt8 × Bool) := N.map fun s => (s, true)
theorem tt_set (N : List (List UInt8)) (s : List UInt8) : mset (tt N) s true = tt (addS N s) := by
  induction N with
  | nil => simp [tt, mset, addS]
  | cons a N ih =>
    by_cases h : a = s
    · subst h
      simp [tt, mset, addS]
    · have h' : ¬ s = a := fun e => h e.symm
      have e1 : mset (tt (a :: N)) s true = (a, true) :: mset (tt N) s true := by simp [tt, mset, h]
      rw [e1, ih]
      unfold addS
      by_cases hm : s ∈ N
      · rw [if_pos hm, if_pos (List.mem_cons_of_mem _ hm)]
        rfl
      · rw [if_neg hm, if_neg (by simp [h', hm])]
        rfl
theorem tt_get (N : List (List UInt8)) (s : List UInt8) : (mget (tt N) s).getD false = decide (s ∈ N) := by
  induction N with
  | nil => simp [tt, mget]
  | cons a N ih =>
    by_cases h : a = s
    · subst h
      simp [tt, mget]
    · have h' : ¬ s = a := fun e => h e.symm
      have e1 : mget (tt (a :: N)) s = mget (tt N) s := by simp [tt, mget, h]
      rw [e1, ih]
      simp [h']

/-- How many definitions were not seen. -/
def unseen (lets : List LetE) (S : List (List UInt8)) : Nat := (lets.filter fun l => !decide (l.name ∈ S)).length
theorem unseen_le {lets : List LetE} {S S' : List (List UInt8)} (h : ∀ s ∈ S, s ∈ S') : unseen lets S' ≤ unseen lets S := by
  unfold unseen
  induction lets with
  | nil => exact Nat.le_refl _
  | cons l r ih =>
    by_cases h1 : l.name ∈ S'
    · by_cases h2 : l.name ∈ S
      · simpa [List.filter_cons, h1, h2] using ih
      · simp only [List.filter_cons, h1, h2, decide_true, Bool.not_true, decide_false, Bool.not_false, if_true, List.length_cons, if_neg Bool.false_ne_true]
        omega
    · have h2 : ¬ l.name ∈ S := fun h3 => h1 (h _ h3)
      simpa [List.filter_cons, h1, h2] using ih
theorem unseen_lt {lets : List LetE} {S : List (List UInt8)} {s : List UInt8} {b : Exp} (hs : s ∉ S) (hb : bodyOf lets s = some b) : unseen lets (addS S s) < unseen lets S := by
  have hex : ∃ l ∈ lets, l.name = s := by
    unfold bodyOf at hb
    cases hf : lets.find? (fun l => decide (l.name = s)) with
    | none => rw [hf] at hb; cases hb
    | some l =>
      have h1 := List.find?_some hf
      exact ⟨l, List.mem_of_find?_eq_some hf, by simpa using h1⟩
  clear hb
  unfold unseen
  induction lets with
  | nil => obtain ⟨l, hl, _⟩ := hex; cases hl
  | cons l r ih =>
    have hle : ∀ r : List LetE, (r.filter fun l => !decide (l.name ∈ addS S s)).length ≤ (r.filter fun l => !decide (l.name ∈ S)).length := fun r => unseen_le (fun a ha => addS_mem.2 (.inl ha))
    by_cases h : l.name = s
    · have h1 : l.name ∈ addS S s := addS_mem.2 (.inr h)
      have h2 : ¬ l.name ∈ S := by rw [h]; exact hs
      have := hle r
      simp only [List.filter_cons, h1, h2, decide_true, Bool.not_true, decide_false, Bool.not_false, if_true, List.length_cons, if_neg Bool.false_ne_true]
      omega
    · have ih := ih (by
        obtain ⟨l', hl', e⟩ := hex
        rcases List.mem_cons.1 hl' with rfl | hl'
        · exact absurd e h
        · exact ⟨l', hl', e⟩)
      by_cases h2 : l.name ∈ S
      · have h1 : l.name ∈ addS S s := addS_mem.2 (.inl h2)
        simpa [List.filter_cons, h1, h2] using ih
      · have h1 : ¬ l.name ∈ addS S s := fun h3 => by
          rcases addS_mem.1 h3 with h3 | h3
          · exact h2 h3
          · exact h h3
        simpa [List.filter_cons, h1, h2] using ih

/-! ### The head of a walk -/
theorem head_rate {lets : List LetE} {e : Exp} {N S : List (List UInt8)} (h : e.op = 3) : Grow lets e N S (addS N e.s) S :=
  ⟨fun s hs => addS_mem.2 (.inl hs), fun _ h => h, fun _ h hn => absurd h hn, fun s hs => by
    rcases addS_mem.1 hs with h1 | h1
    · exact .inl h1
    · exact .inr ⟨e, .refl e, h, h1.symm⟩, addS_nd, fun h => h⟩
theorem head_name {lets : List LetE} {e b : Exp} {N S N1 S1 : List (List UInt8)} (h : e.op = 1) (hb : bodyOf lets e.s = some b) (hp : Post lets b N (addS S e.s) N1 S1) : Grow lets e N S N1 S1 := by
  refine ⟨hp.grow.n_le, fun s hs => hp.grow.s_le s (addS_mem.2 (.inl hs)), fun s hs hn b' hb' => ?_, fun s hs => ?_, hp.grow.ndn, fun hd => hp.grow.nds (addS_nd hd)⟩
  · by_cases h1 : s ∈ addS S e.s
    · rcases addS_mem.1 h1 with h2 | h2
      · exact absurd h2 hn
      · subst h2
        rw [hb] at hb'
        cases hb'
        exact hp.cov
    · exact hp.grow.body s hs h1 b' hb'
  · rcases hp.grow.sound s hs with h1 | ⟨x, hx, h2, h3⟩
    · exact .inl h1
    · exact .inr ⟨x, .body h hb hx, h2, h3⟩
theorem head_none {lets : List LetE} {e : Exp} {N S : List (List UInt8)} (hb : bodyOf lets e.s = none) : Grow lets e N S N (addS S e.s) := by
  refine ⟨fun _ h => h, fun s hs => addS_mem.2 (.inl hs), fun s hs hn b' hb' => ?_, fun _ h => .inl h, fun h => h, addS_nd⟩
  rcases addS_mem.1 hs with h2 | h2
  · exact absurd h2 hn
  · subst h2
    rw [hb] at hb'
    cases hb'
/-- The arguments, one after the other. -/
theorem grow_arg {lets : List LetE} {e a : Exp} {N S N1 S1 N2 S2 : List (List UInt8)} (ha : a ∈ e.args) (h : Grow lets e N S N1 S1) (hp : Post lets a N1 S1 N2 S2) : Grow lets e N S N2 S2 :=
  h.trans hp fun _ hx => .arg ha hx
theorem post_end {lets : List LetE} {e : Exp} {N S N2 S2 : List (List UInt8)} (h : Grow lets e N S N2 S2) (h3 : e.op = 3 → e.s ∈ N2) (h1 : e.op = 1 → e.s ∈ S2) (ha : ∀ a ∈ e.args, Cvd N2 S2 a) : Post lets e N S N2 S2 :=
  ⟨h, fun x hx => by
    cases hx with
    | refl => exact ⟨h3, h1⟩
    | arg hm ht => exact ha _ hm x ht⟩
theorem bodyOf_at {lets : List LetE} {s : List UInt8} {k : Nat} (hk : k < lets.length) (h : (lets.getD k l0).name = s) (hP : ∀ i, i < k → (lets.getD i l0).name ≠ s) : bodyOf lets s = some (lets.getD k l0).body := by
  have hg : ∀ j (hj : j < lets.length), lets.getD j l0 = lets[j] := fun j hj => by rw [List.getD_eq_getElem?_getD, List.getElem?_eq_getElem hj]; rfl
  unfold bodyOf
  have : lets.find? (fun l => decide (l.name = s)) = some lets[k] := by
    rw [List.find?_eq_some_iff_getElem]
    refine ⟨by rw [← hg k hk]; simpa using h, k, hk, rfl, fun j hj => ?_⟩
    have := hP j hj
    rw [hg j (by omega)] at this
    simpa using this
  rw [this, hg k hk]
  rfl
theorem bodyOf_none {lets : List LetE} {s : List UInt8} (hP : ∀ i, i < lets.length → (lets.getD i l0).name ≠ s) : bodyOf lets s = none := by
  unfold bodyOf
  have : lets.find? (fun l => decide (l.name = s)) = none := by
    rw [List.find?_eq_none]
    intro l hl
    obtain ⟨i, hi, rfl⟩ := mem_getD (d := l0) hl
    simpa using hP i hi
  rw [this]
  rfl
/-- All that the coupon quotes, and nothing else. -/
theorem post_all {lets : List LetE} {e : Exp} {N S : List (List UInt8)} (h : Post lets e [] [] N S) (s : List UInt8) : s ∈ N ↔ ∃ x, Reach lets e x ∧ x.op = 3 ∧ x.s = s := by
  constructor
  · intro hs
    rcases h.grow.sound s hs with h1 | h1
    · cases h1
    · exact h1
  · rintro ⟨x, hx, h3, rfl⟩
    have key : ∀ {e x : Exp}, Reach lets e x → Cvd N S e → Cvd N S x := by
      intro e x hx
      induction hx with
      | refl e => exact fun h => h
      | arg ha _ ih => exact fun hc => ih fun y hy => hc y (.arg ha hy)
      | body h1 hb _ ih =>
        rename_i e b x _
        exact fun hc => ih (h.grow.body e.s ((hc e (.refl e)).2 h1) (by simp) b hb)
    exact (key hx h.cov x (.refl x)).1 h3

end Go.Proofs.Ytmcgfkkagijcmaa

namespace Go.Proofs.Ytmcgfkkagijcmaa
open Go.Own
set_option maxHeartbeats 4000000
set_option maxRecDepth 100000

/-- What a walk works on: the indenture, the names, what was seen, and itself. -/
abbrev objs (x : Ind) (N S : List (List UInt8)) : Heap := [(0, .cells 45 (celX x)), (1, .smap encB false (tt N)), (2, .cells 64 [.map 1]), (3, .smap encB false (tt S)), (4, .cells 64 [.map 3]), (5, .cells 65 [.fn (.func 30) [] [.ptr 2 0, .ptr 4 0, .ptr 0 0, .ptr 5 0]])]
def Claim (x : Ind) (e : Exp) (N S : List (List UInt8)) : Prop := ∀ (H : Heap) (nx : Nat), restr H [0, 1, 2, 3, 4, 5] = objs x N S →
  CallSem Try.prog 30 [encE e, .ptr 2 0, .ptr 4 0, .ptr 0 0, .ptr 5 0] H nx [0, 1, 2, 3, 4, 5] (fun r => ∃ N' S', Post x.lets e N S N' S' ∧ r = ⟨.tup [], [0, 1, 2, 3, 4, 5], objs x N' S', nx⟩)
theorem callSem_mono {P : Program} {f : FuncId} {avs : List AV} {H : Heap} {nx : Nat} {t : List Nat} {R R' : Res → Prop} (h : CallSem P f avs H nx t R) (hr : ∀ r, R r → R' r) : CallSem P f avs H nx t R' :=
  ⟨h.1, fun m S w H₂ vs hG ht hf hl hv => (h.2 m S w H₂ vs hG ht (fun i hi ⟨r, h1, h2⟩ => hf i hi ⟨r, hr r h1, h2⟩) hl hv).mono fun _ _ ⟨v, r, m', S', h1, h2, h3⟩ => ⟨v, r, m', S', h1, hr r h2, h3⟩⟩

def RrW (x : Ind) (e : Exp) (N S : List (List UInt8)) (q : Res) : Prop := ∃ N' S', Post x.lets e N S N' S' ∧ ∃ k, q = ⟨.tup [], [0, 1, 2, 3, 4, 5], objs x N' S', k⟩
theorem walk_ok (x : Ind) (hlets : x.lets.length ≤ 1000000) (hbody : ∀ l ∈ x.lets, OkE l.body) : ∀ (u z : Nat) (e : Exp) (N S : List (List UInt8)), OkE e → unseen x.lets S ≤ u → SizeOf.sizeOf e ≤ z → Claim x e N S := by
  intro u
  induction u using Nat.strongRecOn with
  | _ u ihu =>
  intro z
  induction z using Nat.strongRecOn with
  | _ z ihz =>
  intro e N S hok hu hz H nx hH
  refine callSem_mono (R := fun r => ∃ n, RrW x e N S ⟨r.v, r.touch, r.wr, n⟩ ∧ r.nx = nx) ?_ ?_
  · refine inl_any (C := cxP 6 59 [0, 1, 2, 3, 4, 5, 7, 9, 10, 17, 32, 33, 34, 35, 42, 49, 50, 51, 52]) (cxPOk _ _ _) [0, 1, 2, 3, 4, 5] (L := objs x N S) (Rr := RrW x e N S) (avs := [encE e, .ptr 2 0, .ptr 4 0, .ptr 0 0, .ptr 5 0]) (nx0 := 6) Try.func30 rfl (by decide) rfl (by exact Nat.le_of_ble_eq_true rfl) (by decide) hH rfl rfl ?_
    conv => whnf
    refine ⟨fun c0 => ?_, fun c0 => ?_⟩
    · have c0 := of_decide_eq_true c0
      have hg : Grow x.lets e N S (addS N e.s) S := head_rate c0
      have h3 : e.op = 3 → e.s ∈ addS N e.s := fun _ => addS_mem.2 (.inr rfl)
      have h1 : e.op = 1 → e.s ∈ S := fun h => (by omega)
      have hal := argsE_len e
      have hlen := hok.alen
      have hu1 : unseen x.lets S ≤ u := Nat.le_trans (unseen_le hg.s_le) hu
      conv => whnf
      repeat (first | (refine And.intro ⟨by omega, by omega⟩ ?_; conv => whnf) | (refine And.intro (by omega) (And.intro rfl ?_); conv => whnf) | (refine And.intro rfl ?_; conv => whnf) | (refine And.intro (fun _ => ⟨by omega, by omega⟩) ?_; conv => whnf) | (refine And.intro (fun _ => by omega) (And.intro rfl ?_); conv => whnf) | (refine And.intro ⟨(by first | omega | (simp; omega)), (by first | omega | (simp; omega))⟩ ?_; conv => whnf) | (refine Exists.intro _ (And.intro rfl (And.intro (by first | omega | (simp; omega)) (And.intro ⟨rfl, rfl, rfl, rfl, rfl⟩ ?_))); conv => whnf) | (refine And.intro ⟨rfl, rfl⟩ (And.intro (by first | omega | (simp; omega)) ?_); conv => whnf) | (refine Exists.intro _ (And.intro rfl ?_); conv => whnf) | (refine And.intro (fun _ => ?_) (fun h => absurd h (by decide)); conv => whnf) | (refine And.intro (fun h => absurd h (by decide)) (fun _ => ?_); conv => whnf) | (refine .quiet (by kernel_rfl) ?_; conv => whnf))
      refine loop_inv (cxPOk _ _ _) (σ := Nat × List (List UInt8) × List (List UInt8)) (fun s => s.1 ≤ e.args.length ∧ Grow x.lets e N S s.2.1 s.2.2 ∧ (∀ i, i < s.1 → Cvd s.2.1 s.2.2 (e.args.getD i ex0)) ∧ (∀ a ∈ (addS N e.s), a ∈ s.2.1) ∧ (∀ a ∈ S, a ∈ s.2.2)) (fun s => e.args.length - s.1) (fun s => ⟨[(1, .ptr 2 0), (2, .ptr 4 0), (3, .ptr 0 0), (4, .ptr 5 0), (49, .lsl 5 (argsE e)), (50, .int .i64 ((e.args.length : Nat) : Int)), (51, .int .i64 (((s.1) : Nat) : Int))], [(0, .cells 45 (celX x)), (1, .smap encB false (tt (s.2.1))), (2, .cells 64 [.map 1]), (3, .smap encB false (tt (s.2.2))), (4, .cells 64 [.map 3]), (5, .cells 65 [.fn (.func 30) [] [.ptr 2 0, .ptr 4 0, .ptr 0 0, .ptr 5 0]])], 6⟩) (0, (addS N e.s), S) ⟨Nat.zero_le _, hg, fun i hi => absurd hi (Nat.not_lt_zero _), fun _ h => h, fun _ h => h⟩ ((wk_of [(0, .id 0), (1, .id 1), (2, .id 2), (3, .id 3), (4, .id 4), (5, .id 5)] rfl ⟨.base (.ptr _ _ _ rfl), .base (.ptr _ _ _ rfl), .base (.ptr _ _ _ rfl), .base (.ptr _ _ _ rfl), .base (.tree _ _ rfl rfl), .base (.tree _ _ (show AV.int .i64 _ = AV.int .i64 _ by rw [hal]) rfl), .base (.tree _ _ rfl rfl), trivial⟩ ⟨⟨_, rfl, .cells _ _ _ _ rfl (by repeat (first | exact .nil | refine .cons (by first | exact .base (.tree _ _ rfl rfl) | exact .base (.own _ _ rfl) | exact .base (.ptr _ _ _ rfl) | exact .base (.map _ _ rfl) | exact .base (.nilown _ rfl) | exact .fn _ _ _ _ _ .nil (by repeat (first | exact .nil | refine .cons (by exact .ptr _ _ _ rfl) ?_))) ?_)) rfl⟩, ⟨_, rfl, (by first | exact .smap _ _ _ _ _ rfl (tt_set N e.s) | exact .newsmap _ _ _ _ _ _ _ rfl rfl (tt_set N e.s))⟩, ⟨_, rfl, .cells _ _ _ _ rfl (by repeat (first | exact .nil | refine .cons (by first | exact .base (.tree _ _ rfl rfl) | exact .base (.own _ _ rfl) | exact .base (.ptr _ _ _ rfl) | exact .base (.map _ _ rfl) | exact .base (.nilown _ rfl) | exact .fn _ _ _ _ _ .nil (by repeat (first | exact .nil | refine .cons (by exact .ptr _ _ _ rfl) ?_))) ?_)) rfl⟩, ⟨_, rfl, (by first | exact .smap _ _ _ _ _ rfl rfl | exact .newsmap _ _ _ _ _ _ _ rfl rfl rfl)⟩, ⟨_, rfl, .cells _ _ _ _ rfl (by repeat (first | exact .nil | refine .cons (by first | exact .base (.tree _ _ rfl rfl) | exact .base (.own _ _ rfl) | exact .base (.ptr _ _ _ rfl) | exact .base (.map _ _ rfl) | exact .base (.nilown _ rfl) | exact .fn _ _ _ _ _ .nil (by repeat (first | exact .nil | refine .cons (by exact .ptr _ _ _ rfl) ?_))) ?_)) rfl⟩, ⟨_, rfl, .cells _ _ _ _ rfl (by repeat (first | exact .nil | refine .cons (by first | exact .base (.tree _ _ rfl rfl) | exact .base (.own _ _ rfl) | exact .base (.ptr _ _ _ rfl) | exact .base (.map _ _ rfl) | exact .base (.nilown _ rfl) | exact .fn _ _ _ _ _ .nil (by repeat (first | exact .nil | refine .cons (by exact .ptr _ _ _ rfl) ?_))) ?_)) rfl⟩, trivial⟩)) ?_
      rintro ⟨k, N2, S2⟩ ⟨hk, hg2, hc2, hn2, hs2⟩
      show evCode _ _ (⟨[(1, .ptr 2 0), (2, .ptr 4 0), (3, .ptr 0 0), (4, .ptr 5 0), (49, .lsl 5 (argsE e)), (50, .int .i64 ((e.args.length : Nat) : Int)), (51, .int .i64 ((k : Nat) : Int))], [(0, .cells 45 (celX x)), (1, .smap encB false (tt N2)), (2, .cells 64 [.map 1]), (3, .smap encB false (tt S2)), (4, .cells 64 [.map 3]), (5, .cells 65 [.fn (.func 30) [] [.ptr 2 0, .ptr 4 0, .ptr 0 0, .ptr 5 0]])], 6⟩) _
      simp only at hk hg2 hc2 hn2 hs2
      have hek : (k : Int).toNat = k := Int.toNat_natCast k
      conv => whnf
      refine ⟨fun hc => ?_, fun hc => ?_⟩
      · have hlt : k < e.args.length := by
          have := of_decide_eq_true hc
          omega
        have hmem : e.args.getD k ex0 ∈ e.args := getD_mem hlt
        have hsz := args_lt e hmem
        have hget := argsE_get e hlt
        have hu2 : unseen x.lets S2 ≤ u := Nat.le_trans (unseen_le hg2.s_le) hu
        conv => whnf
        repeat (first | (refine And.intro ⟨by omega, by omega⟩ ?_; conv => whnf) | (refine And.intro (by omega) (And.intro rfl ?_); conv => whnf) | (refine And.intro rfl ?_; conv => whnf) | (refine And.intro (fun _ => ⟨by omega, by omega⟩) ?_; conv => whnf) | (refine And.intro (fun _ => by omega) (And.intro rfl ?_); conv => whnf) | (refine And.intro ⟨(by first | omega | (simp; omega)), (by first | omega | (simp; omega))⟩ ?_; conv => whnf) | (refine Exists.intro _ (And.intro rfl (And.intro (by first | omega | (simp; omega)) (And.intro ⟨rfl, rfl, rfl, rfl, rfl⟩ ?_))); conv => whnf) | (refine And.intro ⟨rfl, rfl⟩ (And.intro (by first | omega | (simp; omega)) ?_); conv => whnf) | (refine Exists.intro _ (And.intro rfl ?_); conv => whnf) | (refine And.intro (fun _ => ?_) (fun h => absurd h (by decide)); conv => whnf) | (refine And.intro (fun h => absurd h (by decide)) (fun _ => ?_); conv => whnf) | (refine .quiet (by kernel_rfl) ?_; conv => whnf))
        rw [hek, hget]
        conv => whnf
        repeat (first | (refine And.intro ⟨by omega, by omega⟩ ?_; conv => whnf) | (refine And.intro (by omega) (And.intro rfl ?_); conv => whnf) | (refine And.intro rfl ?_; conv => whnf) | (refine And.intro (fun _ => ⟨by omega, by omega⟩) ?_; conv => whnf) | (refine And.intro (fun _ => by omega) (And.intro rfl ?_); conv => whnf) | (refine And.intro ⟨(by first | omega | (simp; omega)), (by first | omega | (simp; omega))⟩ ?_; conv => whnf) | (refine Exists.intro _ (And.intro rfl (And.intro (by first | omega | (simp; omega)) (And.intro ⟨rfl, rfl, rfl, rfl, rfl⟩ ?_))); conv => whnf) | (refine And.intro ⟨rfl, rfl⟩ (And.intro (by first | omega | (simp; omega)) ?_); conv => whnf) | (refine Exists.intro _ (And.intro rfl ?_); conv => whnf) | (refine And.intro (fun _ => ?_) (fun h => absurd h (by decide)); conv => whnf) | (refine And.intro (fun h => absurd h (by decide)) (fun _ => ?_); conv => whnf) | (refine .quiet (by kernel_rfl) ?_; conv => whnf))
        refine .raw [0, 1, 2, 3, 4, 5] _ rfl (fun h => by cases h) (ihz _ (Nat.lt_of_lt_of_le hsz hz) (e.args.getD k ex0) N2 S2 (hok.arg _ hmem) hu2 (Nat.le_refl _) _ _ rfl) ?_
        rintro r ⟨N3, S3, hp3, rfl⟩
        refine ⟨Nat.le_refl _, ?_⟩
        conv => whnf
        repeat (first | (refine And.intro ⟨by omega, by omega⟩ ?_; conv => whnf) | (refine And.intro (by omega) (And.intro rfl ?_); conv => whnf) | (refine And.intro rfl ?_; conv => whnf) | (refine And.intro (fun _ => ⟨by omega, by omega⟩) ?_; conv => whnf) | (refine And.intro (fun _ => by omega) (And.intro rfl ?_); conv => whnf) | (refine And.intro ⟨(by first | omega | (simp; omega)), (by first | omega | (simp; omega))⟩ ?_; conv => whnf) | (refine Exists.intro _ (And.intro rfl (And.intro (by first | omega | (simp; omega)) (And.intro ⟨rfl, rfl, rfl, rfl, rfl⟩ ?_))); conv => whnf) | (refine And.intro ⟨rfl, rfl⟩ (And.intro (by first | omega | (simp; omega)) ?_); conv => whnf) | (refine Exists.intro _ (And.intro rfl ?_); conv => whnf) | (refine And.intro (fun _ => ?_) (fun h => absurd h (by decide)); conv => whnf) | (refine And.intro (fun h => absurd h (by decide)) (fun _ => ?_); conv => whnf) | (refine .quiet (by kernel_rfl) ?_; conv => whnf))
        refine ⟨(k + 1, N3, S3), ⟨hlt, grow_arg hmem hg2 hp3, fun i hi => ?_, fun a ha => hp3.grow.n_le a (hn2 a ha), fun a ha => hp3.grow.s_le a (hs2 a ha)⟩, by show e.args.length - (k + 1) < e.args.length - k; omega, (wk_of [(0, .id 0), (1, .id 1), (2, .id 2), (3, .id 3), (4, .id 4), (5, .id 5)] rfl ⟨.base (.ptr _ _ _ rfl), .base (.ptr _ _ _ rfl), .base (.ptr _ _ _ rfl), .base (.ptr _ _ _ rfl), .base (.tree _ _ rfl rfl), .base (.tree _ _ rfl rfl), .base (.tree _ _ rfl rfl), trivial⟩ ⟨⟨_, rfl, .cells _ _ _ _ rfl (by repeat (first | exact .nil | refine .cons (by first | exact .base (.tree _ _ rfl rfl) | exact .base (.own _ _ rfl) | exact .base (.ptr _ _ _ rfl) | exact .base (.map _ _ rfl) | exact .base (.nilown _ rfl) | exact .fn _ _ _ _ _ .nil (by repeat (first | exact .nil | refine .cons (by exact .ptr _ _ _ rfl) ?_))) ?_)) rfl⟩, ⟨_, rfl, (by first | exact .smap _ _ _ _ _ rfl rfl | exact .newsmap _ _ _ _ _ _ _ rfl rfl rfl)⟩, ⟨_, rfl, .cells _ _ _ _ rfl (by repeat (first | exact .nil | refine .cons (by first | exact .base (.tree _ _ rfl rfl) | exact .base (.own _ _ rfl) | exact .base (.ptr _ _ _ rfl) | exact .base (.map _ _ rfl) | exact .base (.nilown _ rfl) | exact .fn _ _ _ _ _ .nil (by repeat (first | exact .nil | refine .cons (by exact .ptr _ _ _ rfl) ?_))) ?_)) rfl⟩, ⟨_, rfl, (by first | exact .smap _ _ _ _ _ rfl rfl | exact .newsmap _ _ _ _ _ _ _ rfl rfl rfl)⟩, ⟨_, rfl, .cells _ _ _ _ rfl (by repeat (first | exact .nil | refine .cons (by first | exact .base (.tree _ _ rfl rfl) | exact .base (.own _ _ rfl) | exact .base (.ptr _ _ _ rfl) | exact .base (.map _ _ rfl) | exact .base (.nilown _ rfl) | exact .fn _ _ _ _ _ .nil (by repeat (first | exact .nil | refine .cons (by exact .ptr _ _ _ rfl) ?_))) ?_)) rfl⟩, ⟨_, rfl, .cells _ _ _ _ rfl (by repeat (first | exact .nil | refine .cons (by first | exact .base (.tree _ _ rfl rfl) | exact .base (.own _ _ rfl) | exact .base (.ptr _ _ _ rfl) | exact .base (.map _ _ rfl) | exact .base (.nilown _ rfl) | exact .fn _ _ _ _ _ .nil (by repeat (first | exact .nil | refine .cons (by exact .ptr _ _ _ rfl) ?_))) ?_)) rfl⟩, trivial⟩)⟩
        show Cvd N3 S3 (e.args.getD i ex0)
        have hi' : i < k + 1 := hi
        by_cases h : i = k
        · subst h
          exact hp3.cov
        · exact (hc2 i (by omega)).le hp3.grow.n_le hp3.grow.s_le
      · have hke : k = e.args.length := by
          have := of_decide_eq_false hc
          omega
        subst hke
        conv => whnf
        refine ⟨rfl, rfl, rfl, ?_⟩
        conv => whnf
        refine ⟨rfl, N2, S2, post_end hg2 (fun h => hn2 _ (h3 h)) (fun h => hs2 _ (h1 h)) fun a ha => ?_, _, rfl⟩
        obtain ⟨i, hi, rfl⟩ := mem_getD (d := ex0) ha
        exact hc2 i hi
    have c0 := of_decide_eq_false c0
    conv => whnf
    repeat (first | (refine And.intro ⟨by omega, by omega⟩ ?_; conv => whnf) | (refine And.intro (by omega) (And.intro rfl ?_); conv => whnf) | (refine And.intro rfl ?_; conv => whnf) | (refine And.intro (fun _ => ⟨by omega, by omega⟩) ?_; conv => whnf) | (refine And.intro (fun _ => by omega) (And.intro rfl ?_); conv => whnf) | (refine And.intro ⟨(by first | omega | (simp; omega)), (by first | omega | (simp; omega))⟩ ?_; conv => whnf) | (refine Exists.intro _ (And.intro rfl (And.intro (by first | omega | (simp; omega)) (And.intro ⟨rfl, rfl, rfl, rfl, rfl⟩ ?_))); conv => whnf) | (refine And.intro ⟨rfl, rfl⟩ (And.intro (by first | omega | (simp; omega)) ?_); conv => whnf) | (refine Exists.intro _ (And.intro rfl ?_); conv => whnf) | (refine And.intro (fun _ => ?_) (fun h => absurd h (by decide)); conv => whnf) | (refine And.intro (fun h => absurd h (by decide)) (fun _ => ?_); conv => whnf) | (refine .quiet (by kernel_rfl) ?_; conv => whnf))
    rw [tt_get]
    refine ⟨fun c1 => ?_, fun c1 => ?_⟩
    · rw [Bool.and_eq_true, decide_eq_true_eq, Bool.not_eq_true', decide_eq_false_iff_not] at c1
      obtain ⟨c1, c2⟩ := c1
      conv => whnf
      repeat (first | (refine And.intro ⟨by omega, by omega⟩ ?_; conv => whnf) | (refine And.intro (by omega) (And.intro rfl ?_); conv => whnf) | (refine And.intro rfl ?_; conv => whnf) | (refine And.intro (fun _ => ⟨by omega, by omega⟩) ?_; conv => whnf) | (refine And.intro (fun _ => by omega) (And.intro rfl ?_); conv => whnf) | (refine And.intro ⟨(by first | omega | (simp; omega)), (by first | omega | (simp; omega))⟩ ?_; conv => whnf) | (refine Exists.intro _ (And.intro rfl (And.intro (by first | omega | (simp; omega)) (And.intro ⟨rfl, rfl, rfl, rfl, rfl⟩ ?_))); conv => whnf) | (refine And.intro ⟨rfl, rfl⟩ (And.intro (by first | omega | (simp; omega)) ?_); conv => whnf) | (refine Exists.intro _ (And.intro rfl ?_); conv => whnf) | (refine And.intro (fun _ => ?_) (fun h => absurd h (by decide)); conv => whnf) | (refine And.intro (fun h => absurd h (by decide)) (fun _ => ?_); conv => whnf) | (refine .quiet (by kernel_rfl) ?_; conv => whnf))
      refine loop_up (cxPOk _ _ _) x.lets.length (fun k => ∀ i, i < k → (x.lets.getD i l0).name ≠ e.s) (fun k => ⟨[(1, .ptr 2 0), (2, .ptr 4 0), (3, .ptr 0 0), (4, .ptr 5 0), (5, .ptr 6 0), (32, .sl 6 encL l0 x.lets), (33, .int .i64 ((x.lets.length : Nat) : Int)), (34, .int .i64 ((k : Nat) : Int))], [(0, .cells 45 (celX x)), (1, .smap encB false (tt N)), (2, .cells 64 [.map 1]), (3, .smap encB false (tt (addS S e.s))), (4, .cells 64 [.map 3]), (5, .cells 65 [.fn (.func 30) [] [.ptr 2 0, .ptr 4 0, .ptr 0 0, .ptr 5 0]]), (6, .cells 40 [.int .i64 e.op, .int .i64 e.n, .int .i64 e.unit, .str e.s, .lsl 5 (argsE e)])], 7⟩) (fun i hi => absurd hi (Nat.not_lt_zero _)) ((wk_of [(0, .id 0), (1, .id 1), (2, .id 2), (3, .id 3), (4, .id 4), (5, .id 5), (6, .id 6)] rfl ⟨.base (.ptr _ _ _ rfl), .base (.ptr _ _ _ rfl), .base (.ptr _ _ _ rfl), .base (.ptr _ _ _ rfl), .base (.ptr _ _ _ rfl), .base (.tree _ _ rfl rfl), .base (.tree _ _ rfl rfl), .base (.tree _ _ rfl rfl), trivial⟩ ⟨⟨_, rfl, .cells _ _ _ _ rfl (by repeat (first | exact .nil | refine .cons (by first | exact .base (.tree _ _ rfl rfl) | exact .base (.own _ _ rfl) | exact .base (.ptr _ _ _ rfl) | exact .base (.map _ _ rfl) | exact .base (.nilown _ rfl) | exact .fn _ _ _ _ _ .nil (by repeat (first | exact .nil | refine .cons (by exact .ptr _ _ _ rfl) ?_))) ?_)) rfl⟩, ⟨_, rfl, (by first | exact .smap _ _ _ _ _ rfl rfl | exact .newsmap _ _ _ _ _ _ _ rfl rfl rfl)⟩, ⟨_, rfl, .cells _ _ _ _ rfl (by repeat (first | exact .nil | refine .cons (by first | exact .base (.tree _ _ rfl rfl) | exact .base (.own _ _ rfl) | exact .base (.ptr _ _ _ rfl) | exact .base (.map _ _ rfl) | exact .base (.nilown _ rfl) | exact .fn _ _ _ _ _ .nil (by repeat (first | exact .nil | refine .cons (by exact .ptr _ _ _ rfl) ?_))) ?_)) rfl⟩, ⟨_, rfl, (by first | exact .smap _ _ _ _ _ rfl (tt_set S e.s) | exact .newsmap _ _ _ _ _ _ _ rfl rfl (tt_set S e.s))⟩, ⟨_, rfl, .cells _ _ _ _ rfl (by repeat (first | exact .nil | refine .cons (by first | exact .base (.tree _ _ rfl rfl) | exact .base (.own _ _ rfl) | exact .base (.ptr _ _ _ rfl) | exact .base (.map _ _ rfl) | exact .base (.nilown _ rfl) | exact .fn _ _ _ _ _ .nil (by repeat (first | exact .nil | refine .cons (by exact .ptr _ _ _ rfl) ?_))) ?_)) rfl⟩, ⟨_, rfl, .cells _ _ _ _ rfl (by repeat (first | exact .nil | refine .cons (by first | exact .base (.tree _ _ rfl rfl) | exact .base (.own _ _ rfl) | exact .base (.ptr _ _ _ rfl) | exact .base (.map _ _ rfl) | exact .base (.nilown _ rfl) | exact .fn _ _ _ _ _ .nil (by repeat (first | exact .nil | refine .cons (by exact .ptr _ _ _ rfl) ?_))) ?_)) rfl⟩, ⟨_, rfl, .cells _ _ _ _ rfl (by repeat (first | exact .nil | refine .cons (by first | exact .base (.tree _ _ rfl rfl) | exact .base (.own _ _ rfl) | exact .base (.ptr _ _ _ rfl) | exact .base (.map _ _ rfl) | exact .base (.nilown _ rfl) | exact .fn _ _ _ _ _ .nil (by repeat (first | exact .nil | refine .cons (by exact .ptr _ _ _ rfl) ?_))) ?_)) rfl⟩, trivial⟩)) ?_
      intro k hk hP
      have hek : (k : Int).toNat = k := Int.toNat_natCast k
      conv => whnf
      refine ⟨fun hc => ?_, fun hc => ?_⟩
      · have hlt : k < x.lets.length := by
          have := of_decide_eq_true hc
          omega
        have hmem : x.lets.getD k l0 ∈ x.lets := getD_mem hlt
        conv => whnf
        repeat (first | (refine And.intro ⟨by omega, by omega⟩ ?_; conv => whnf) | (refine And.intro (by omega) (And.intro rfl ?_); conv => whnf) | (refine And.intro rfl ?_; conv => whnf) | (refine And.intro (fun _ => ⟨by omega, by omega⟩) ?_; conv => whnf) | (refine And.intro (fun _ => by omega) (And.intro rfl ?_); conv => whnf) | (refine And.intro ⟨(by first | omega | (simp; omega)), (by first | omega | (simp; omega))⟩ ?_; conv => whnf) | (refine Exists.intro _ (And.intro rfl (And.intro (by first | omega | (simp; omega)) (And.intro ⟨rfl, rfl, rfl, rfl, rfl⟩ ?_))); conv => whnf) | (refine And.intro ⟨rfl, rfl⟩ (And.intro (by first | omega | (simp; omega)) ?_); conv => whnf) | (refine Exists.intro _ (And.intro rfl ?_); conv => whnf) | (refine And.intro (fun _ => ?_) (fun h => absurd h (by decide)); conv => whnf) | (refine And.intro (fun h => absurd h (by decide)) (fun _ => ?_); conv => whnf) | (refine .quiet (by kernel_rfl) ?_; conv => whnf))
        rw [hek]
        conv => whnf
        refine ⟨fun hd => ?_, fun hd => ?_⟩
        · have hd := of_decide_eq_true hd
          have hb := bodyOf_at hlt hd hP
          have hul := unseen_lt (lets := x.lets) c2 hb
          conv => whnf
          repeat (first | (refine And.intro ⟨by omega, by omega⟩ ?_; conv => whnf) | (refine And.intro (by omega) (And.intro rfl ?_); conv => whnf) | (refine And.intro rfl ?_; conv => whnf) | (refine And.intro (fun _ => ⟨by omega, by omega⟩) ?_; conv => whnf) | (refine And.intro (fun _ => by omega) (And.intro rfl ?_); conv => whnf) | (refine And.intro ⟨(by first | omega | (simp; omega)), (by first | omega | (simp; omega))⟩ ?_; conv => whnf) | (refine Exists.intro _ (And.intro rfl (And.intro (by first | omega | (simp; omega)) (And.intro ⟨rfl, rfl, rfl, rfl, rfl⟩ ?_))); conv => whnf) | (refine And.intro ⟨rfl, rfl⟩ (And.intro (by first | omega | (simp; omega)) ?_); conv => whnf) | (refine Exists.intro _ (And.intro rfl ?_); conv => whnf) | (refine And.intro (fun _ => ?_) (fun h => absurd h (by decide)); conv => whnf) | (refine And.intro (fun h => absurd h (by decide)) (fun _ => ?_); conv => whnf) | (refine .quiet (by kernel_rfl) ?_; conv => whnf))
          refine .raw [0, 1, 2, 3, 4, 5] _ rfl (fun h => by cases h) (ihu _ (Nat.lt_of_lt_of_le hul hu) _ (x.lets.getD k l0).body N (addS S e.s) (hbody _ hmem) (Nat.le_refl _) (Nat.le_refl _) _ _ rfl) ?_
          rintro r ⟨N1, S1, hp1, rfl⟩
          refine ⟨Nat.le_refl _, ?_⟩
          have hg : Grow x.lets e N S N1 S1 := head_name c1 hb hp1
          have h3 : e.op = 3 → e.s ∈ N1 := fun h => (by omega)
          have h1 : e.op = 1 → e.s ∈ S1 := fun _ => hp1.grow.s_le _ (addS_mem.2 (.inr rfl))
          have hal := argsE_len e
          have hlen := hok.alen
          have hu1 : unseen x.lets S1 ≤ u := Nat.le_trans (unseen_le hg.s_le) hu
          conv => whnf
          repeat (first | (refine And.intro ⟨by omega, by omega⟩ ?_; conv => whnf) | (refine And.intro (by omega) (And.intro rfl ?_); conv => whnf) | (refine And.intro rfl ?_; conv => whnf) | (refine And.intro (fun _ => ⟨by omega, by omega⟩) ?_; conv => whnf) | (refine And.intro (fun _ => by omega) (And.intro rfl ?_); conv => whnf) | (refine And.intro ⟨(by first | omega | (simp; omega)), (by first | omega | (simp; omega))⟩ ?_; conv => whnf) | (refine Exists.intro _ (And.intro rfl (And.intro (by first | omega | (simp; omega)) (And.intro ⟨rfl, rfl, rfl, rfl, rfl⟩ ?_))); conv => whnf) | (refine And.intro ⟨rfl, rfl⟩ (And.intro (by first | omega | (simp; omega)) ?_); conv => whnf) | (refine Exists.intro _ (And.intro rfl ?_); conv => whnf) | (refine And.intro (fun _ => ?_) (fun h => absurd h (by decide)); conv => whnf) | (refine And.intro (fun h => absurd h (by decide)) (fun _ => ?_); conv => whnf) | (refine .quiet (by kernel_rfl) ?_; conv => whnf))
          refine loop_inv (cxPOk _ _ _) (σ := Nat × List (List UInt8) × List (List UInt8)) (fun s => s.1 ≤ e.args.length ∧ Grow x.lets e N S s.2.1 s.2.2 ∧ (∀ i, i < s.1 → Cvd s.2.1 s.2.2 (e.args.getD i ex0)) ∧ (∀ a ∈ N1, a ∈ s.2.1) ∧ (∀ a ∈ S1, a ∈ s.2.2)) (fun s => e.args.length - s.1) (fun s => ⟨[(1, .ptr 2 0), (2, .ptr 4 0), (3, .ptr 0 0), (4, .ptr 5 0), (49, .lsl 5 (argsE e)), (50, .int .i64 ((e.args.length : Nat) : Int)), (51, .int .i64 (((s.1) : Nat) : Int))], [(0, .cells 45 (celX x)), (1, .smap encB false (tt (s.2.1))), (2, .cells 64 [.map 1]), (3, .smap encB false (tt (s.2.2))), (4, .cells 64 [.map 3]), (5, .cells 65 [.fn (.func 30) [] [.ptr 2 0, .ptr 4 0, .ptr 0 0, .ptr 5 0]])], 6⟩) (0, N1, S1) ⟨Nat.zero_le _, hg, fun i hi => absurd hi (Nat.not_lt_zero _), fun _ h => h, fun _ h => h⟩ ((wk_of [(0, .id 0), (1, .id 1), (2, .id 2), (3, .id 3), (4, .id 4), (5, .id 5)] rfl ⟨.base (.ptr _ _ _ rfl), .base (.ptr _ _ _ rfl), .base (.ptr _ _ _ rfl), .base (.ptr _ _ _ rfl), .base (.tree _ _ rfl rfl), .base (.tree _ _ (show AV.int .i64 _ = AV.int .i64 _ by rw [hal]) rfl), .base (.tree _ _ rfl rfl), trivial⟩ ⟨⟨_, rfl, .cells _ _ _ _ rfl (by repeat (first | exact .nil | refine .cons (by first | exact .base (.tree _ _ rfl rfl) | exact .base (.own _ _ rfl) | exact .base (.ptr _ _ _ rfl) | exact .base (.map _ _ rfl) | exact .base (.nilown _ rfl) | exact .fn _ _ _ _ _ .nil (by repeat (first | exact .nil | refine .cons (by exact .ptr _ _ _ rfl) ?_))) ?_)) rfl⟩, ⟨_, rfl, (by first | exact .smap _ _ _ _ _ rfl rfl | exact .newsmap _ _ _ _ _ _ _ rfl rfl rfl)⟩, ⟨_, rfl, .cells _ _ _ _ rfl (by repeat (first | exact .nil | refine .cons (by first | exact .base (.tree _ _ rfl rfl) | exact .base (.own _ _ rfl) | exact .base (.ptr _ _ _ rfl) | exact .base (.map _ _ rfl) | exact .base (.nilown _ rfl) | exact .fn _ _ _ _ _ .nil (by repeat (first | exact .nil | refine .cons (by exact .ptr _ _ _ rfl) ?_))) ?_)) rfl⟩, ⟨_, rfl, (by first | exact .smap _ _ _ _ _ rfl rfl | exact .newsmap _ _ _ _ _ _ _ rfl rfl rfl)⟩, ⟨_, rfl, .cells _ _ _ _ rfl (by repeat (first | exact .nil | refine .cons (by first | exact .base (.tree _ _ rfl rfl) | exact .base (.own _ _ rfl) | exact .base (.ptr _ _ _ rfl) | exact .base (.map _ _ rfl) | exact .base (.nilown _ rfl) | exact .fn _ _ _ _ _ .nil (by repeat (first | exact .nil | refine .cons (by exact .ptr _ _ _ rfl) ?_))) ?_)) rfl⟩, ⟨_, rfl, .cells _ _ _ _ rfl (by repeat (first | exact .nil | refine .cons (by first | exact .base (.tree _ _ rfl rfl) | exact .base (.own _ _ rfl) | exact .base (.ptr _ _ _ rfl) | exact .base (.map _ _ rfl) | exact .base (.nilown _ rfl) | exact .fn _ _ _ _ _ .nil (by repeat (first | exact .nil | refine .cons (by exact .ptr _ _ _ rfl) ?_))) ?_)) rfl⟩, trivial⟩)) ?_
          rintro ⟨k, N2, S2⟩ ⟨hk, hg2, hc2, hn2, hs2⟩
          show evCode _ _ (⟨[(1, .ptr 2 0), (2, .ptr 4 0), (3, .ptr 0 0), (4, .ptr 5 0), (49, .lsl 5 (argsE e)), (50, .int .i64 ((e.args.length : Nat) : Int)), (51, .int .i64 ((k : Nat) : Int))], [(0, .cells 45 (celX x)), (1, .smap encB false (tt N2)), (2, .cells 64 [.map 1]), (3, .smap encB false (tt S2)), (4, .cells 64 [.map 3]), (5, .cells 65 [.fn (.func 30) [] [.ptr 2 0, .ptr 4 0, .ptr 0 0, .ptr 5 0]])], 6⟩) _
          simp only at hk hg2 hc2 hn2 hs2
          have hek : (k : Int).toNat = k := Int.toNat_natCast k
          conv => whnf
          refine ⟨fun hc => ?_, fun hc => ?_⟩
          · have hlt : k < e.args.length := by
              have := of_decide_eq_true hc
              omega
            have hmem : e.args.getD k ex0 ∈ e.args := getD_mem hlt
            have hsz := args_lt e hmem
            have hget := argsE_get e hlt
            have hu2 : unseen x.lets S2 ≤ u := Nat.le_trans (unseen_le hg2.s_le) hu
            conv => whnf
            repeat (first | (refine And.intro ⟨by omega, by omega⟩ ?_; conv => whnf) | (refine And.intro (by omega) (And.intro rfl ?_); conv => whnf) | (refine And.intro rfl ?_; conv => whnf) | (refine And.intro (fun _ => ⟨by omega, by omega⟩) ?_; conv => whnf) | (refine And.intro (fun _ => by omega) (And.intro rfl ?_); conv => whnf) | (refine And.intro ⟨(by first | omega | (simp; omega)), (by first | omega | (simp; omega))⟩ ?_; conv => whnf) | (refine Exists.intro _ (And.intro rfl (And.intro (by first | omega | (simp; omega)) (And.intro ⟨rfl, rfl, rfl, rfl, rfl⟩ ?_))); conv => whnf) | (refine And.intro ⟨rfl, rfl⟩ (And.intro (by first | omega | (simp; omega)) ?_); conv => whnf) | (refine Exists.intro _ (And.intro rfl ?_); conv => whnf) | (refine And.intro (fun _ => ?_) (fun h => absurd h (by decide)); conv => whnf) | (refine And.intro (fun h => absurd h (by decide)) (fun _ => ?_); conv => whnf) | (refine .quiet (by kernel_rfl) ?_; conv => whnf))
            rw [hek, hget]
            conv => whnf
            repeat (first | (refine And.intro ⟨by omega, by omega⟩ ?_; conv => whnf) | (refine And.intro (by omega) (And.intro rfl ?_); conv => whnf) | (refine And.intro rfl ?_; conv => whnf) | (refine And.intro (fun _ => ⟨by omega, by omega⟩) ?_; conv => whnf) | (refine And.intro (fun _ => by omega) (And.intro rfl ?_); conv => whnf) | (refine And.intro ⟨(by first | omega | (simp; omega)), (by first | omega | (simp; omega))⟩ ?_; conv => whnf) | (refine Exists.intro _ (And.intro rfl (And.intro (by first | omega | (simp; omega)) (And.intro ⟨rfl, rfl, rfl, rfl, rfl⟩ ?_))); conv => whnf) | (refine And.intro ⟨rfl, rfl⟩ (And.intro (by first | omega | (simp; omega)) ?_); conv => whnf) | (refine Exists.intro _ (And.intro rfl ?_); conv => whnf) | (refine And.intro (fun _ => ?_) (fun h => absurd h (by decide)); conv => whnf) | (refine And.intro (fun h => absurd h (by decide)) (fun _ => ?_); conv => whnf) | (refine .quiet (by kernel_rfl) ?_; conv => whnf))
            refine .raw [0, 1, 2, 3, 4, 5] _ rfl (fun h => by cases h) (ihz _ (Nat.lt_of_lt_of_le hsz hz) (e.args.getD k ex0) N2 S2 (hok.arg _ hmem) hu2 (Nat.le_refl _) _ _ rfl) ?_
            rintro r ⟨N3, S3, hp3, rfl⟩
            refine ⟨Nat.le_refl _, ?_⟩
            conv => whnf
            repeat (first | (refine And.intro ⟨by omega, by omega⟩ ?_; conv => whnf) | (refine And.intro (by omega) (And.intro rfl ?_); conv => whnf) | (refine And.intro rfl ?_; conv => whnf) | (refine And.intro (fun _ => ⟨by omega, by omega⟩) ?_; conv => whnf) | (refine And.intro (fun _ => by omega) (And.intro rfl ?_); conv => whnf) | (refine And.intro ⟨(by first | omega | (simp; omega)), (by first | omega | (simp; omega))⟩ ?_; conv => whnf) | (refine Exists.intro _ (And.intro rfl (And.intro (by first | omega | (simp; omega)) (And.intro ⟨rfl, rfl, rfl, rfl, rfl⟩ ?_))); conv => whnf) | (refine And.intro ⟨rfl, rfl⟩ (And.intro (by first | omega | (simp; omega)) ?_); conv => whnf) | (refine Exists.intro _ (And.intro rfl ?_); conv => whnf) | (refine And.intro (fun _ => ?_) (fun h => absurd h (by decide)); conv => whnf) | (refine And.intro (fun h => absurd h (by decide)) (fun _ => ?_); conv => whnf) | (refine .quiet (by kernel_rfl) ?_; conv => whnf))
            refine ⟨(k + 1, N3, S3), ⟨hlt, grow_arg hmem hg2 hp3, fun i hi => ?_, fun a ha => hp3.grow.n_le a (hn2 a ha), fun a ha => hp3.grow.s_le a (hs2 a ha)⟩, by show e.args.length - (k + 1) < e.args.length - k; omega, (wk_of [(0, .id 0), (1, .id 1), (2, .id 2), (3, .id 3), (4, .id 4), (5, .id 5)] rfl ⟨.base (.ptr _ _ _ rfl), .base (.ptr _ _ _ rfl), .base (.ptr _ _ _ rfl), .base (.ptr _ _ _ rfl), .base (.tree _ _ rfl rfl), .base (.tree _ _ rfl rfl), .base (.tree _ _ rfl rfl), trivial⟩ ⟨⟨_, rfl, .cells _ _ _ _ rfl (by repeat (first | exact .nil | refine .cons (by first | exact .base (.tree _ _ rfl rfl) | exact .base (.own _ _ rfl) | exact .base (.ptr _ _ _ rfl) | exact .base (.map _ _ rfl) | exact .base (.nilown _ rfl) | exact .fn _ _ _ _ _ .nil (by repeat (first | exact .nil | refine .cons (by exact .ptr _ _ _ rfl) ?_))) ?_)) rfl⟩, ⟨_, rfl, (by first | exact .smap _ _ _ _ _ rfl rfl | exact .newsmap _ _ _ _ _ _ _ rfl rfl rfl)⟩, ⟨_, rfl, .cells _ _ _ _ rfl (by repeat (first | exact .nil | refine .cons (by first | exact .base (.tree _ _ rfl rfl) | exact .base (.own _ _ rfl) | exact .base (.ptr _ _ _ rfl) | exact .base (.map _ _ rfl) | exact .base (.nilown _ rfl) | exact .fn _ _ _ _ _ .nil (by repeat (first | exact .nil | refine .cons (by exact .ptr _ _ _ rfl) ?_))) ?_)) rfl⟩, ⟨_, rfl, (by first | exact .smap _ _ _ _ _ rfl rfl | exact .newsmap _ _ _ _ _ _ _ rfl rfl rfl)⟩, ⟨_, rfl, .cells _ _ _ _ rfl (by repeat (first | exact .nil | refine .cons (by first | exact .base (.tree _ _ rfl rfl) | exact .base (.own _ _ rfl) | exact .base (.ptr _ _ _ rfl) | exact .base (.map _ _ rfl) | exact .base (.nilown _ rfl) | exact .fn _ _ _ _ _ .nil (by repeat (first | exact .nil | refine .cons (by exact .ptr _ _ _ rfl) ?_))) ?_)) rfl⟩, ⟨_, rfl, .cells _ _ _ _ rfl (by repeat (first | exact .nil | refine .cons (by first | exact .base (.tree _ _ rfl rfl) | exact .base (.own _ _ rfl) | exact .base (.ptr _ _ _ rfl) | exact .base (.map _ _ rfl) | exact .base (.nilown _ rfl) | exact .fn _ _ _ _ _ .nil (by repeat (first | exact .nil | refine .cons (by exact .ptr _ _ _ rfl) ?_))) ?_)) rfl⟩, trivial⟩)⟩
            show Cvd N3 S3 (e.args.getD i ex0)
            have hi' : i < k + 1 := hi
            by_cases h : i = k
            · subst h
              exact hp3.cov
            · exact (hc2 i (by omega)).le hp3.grow.n_le hp3.grow.s_le
          · have hke : k = e.args.length := by
              have := of_decide_eq_false hc
              omega
            subst hke
            conv => whnf
            refine ⟨rfl, rfl, rfl, ?_⟩
            conv => whnf
            refine ⟨rfl, N2, S2, post_end hg2 (fun h => hn2 _ (h3 h)) (fun h => hs2 _ (h1 h)) fun a ha => ?_, _, rfl⟩
            obtain ⟨i, hi, rfl⟩ := mem_getD (d := ex0) ha
            exact hc2 i hi
        · have hd := of_decide_eq_false hd
          conv => whnf
          repeat (first | (refine And.intro ⟨by omega, by omega⟩ ?_; conv => whnf) | (refine And.intro (by omega) (And.intro rfl ?_); conv => whnf) | (refine And.intro rfl ?_; conv => whnf) | (refine And.intro (fun _ => ⟨by omega, by omega⟩) ?_; conv => whnf) | (refine And.intro (fun _ => by omega) (And.intro rfl ?_); conv => whnf) | (refine And.intro ⟨(by first | omega | (simp; omega)), (by first | omega | (simp; omega))⟩ ?_; conv => whnf) | (refine Exists.intro _ (And.intro rfl (And.intro (by first | omega | (simp; omega)) (And.intro ⟨rfl, rfl, rfl, rfl, rfl⟩ ?_))); conv => whnf) | (refine And.intro ⟨rfl, rfl⟩ (And.intro (by first | omega | (simp; omega)) ?_); conv => whnf) | (refine Exists.intro _ (And.intro rfl ?_); conv => whnf) | (refine And.intro (fun _ => ?_) (fun h => absurd h (by decide)); conv => whnf) | (refine And.intro (fun h => absurd h (by decide)) (fun _ => ?_); conv => whnf) | (refine .quiet (by kernel_rfl) ?_; conv => whnf))
          refine up hlt (fun i hi => ?_) ((wk_of [(0, .id 0), (1, .id 1), (2, .id 2), (3, .id 3), (4, .id 4), (5, .id 5), (6, .id 6)] rfl ⟨.base (.ptr _ _ _ rfl), .base (.ptr _ _ _ rfl), .base (.ptr _ _ _ rfl), .base (.ptr _ _ _ rfl), .base (.ptr _ _ _ rfl), .base (.tree _ _ rfl rfl), .base (.tree _ _ rfl rfl), .base (.tree _ _ rfl rfl), trivial⟩ ⟨⟨_, rfl, .cells _ _ _ _ rfl (by repeat (first | exact .nil | refine .cons (by first | exact .base (.tree _ _ rfl rfl) | exact .base (.own _ _ rfl) | exact .base (.ptr _ _ _ rfl) | exact .base (.map _ _ rfl) | exact .base (.nilown _ rfl) | exact .fn _ _ _ _ _ .nil (by repeat (first | exact .nil | refine .cons (by exact .ptr _ _ _ rfl) ?_))) ?_)) rfl⟩, ⟨_, rfl, (by first | exact .smap _ _ _ _ _ rfl rfl | exact .newsmap _ _ _ _ _ _ _ rfl rfl rfl)⟩, ⟨_, rfl, .cells _ _ _ _ rfl (by repeat (first | exact .nil | refine .cons (by first | exact .base (.tree _ _ rfl rfl) | exact .base (.own _ _ rfl) | exact .base (.ptr _ _ _ rfl) | exact .base (.map _ _ rfl) | exact .base (.nilown _ rfl) | exact .fn _ _ _ _ _ .nil (by repeat (first | exact .nil | refine .cons (by exact .ptr _ _ _ rfl) ?_))) ?_)) rfl⟩, ⟨_, rfl, (by first | exact .smap _ _ _ _ _ rfl rfl | exact .newsmap _ _ _ _ _ _ _ rfl rfl rfl)⟩, ⟨_, rfl, .cells _ _ _ _ rfl (by repeat (first | exact .nil | refine .cons (by first | exact .base (.tree _ _ rfl rfl) | exact .base (.own _ _ rfl) | exact .base (.ptr _ _ _ rfl) | exact .base (.map _ _ rfl) | exact .base (.nilown _ rfl) | exact .fn _ _ _ _ _ .nil (by repeat (first | exact .nil | refine .cons (by exact .ptr _ _ _ rfl) ?_))) ?_)) rfl⟩, ⟨_, rfl, .cells _ _ _ _ rfl (by repeat (first | exact .nil | refine .cons (by first | exact .base (.tree _ _ rfl rfl) | exact .base (.own _ _ rfl) | exact .base (.ptr _ _ _ rfl) | exact .base (.map _ _ rfl) | exact .base (.nilown _ rfl) | exact .fn _ _ _ _ _ .nil (by repeat (first | exact .nil | refine .cons (by exact .ptr _ _ _ rfl) ?_))) ?_)) rfl⟩, ⟨_, rfl, .cells _ _ _ _ rfl (by repeat (first | exact .nil | refine .cons (by first | exact .base (.tree _ _ rfl rfl) | exact .base (.own _ _ rfl) | exact .base (.ptr _ _ _ rfl) | exact .base (.map _ _ rfl) | exact .base (.nilown _ rfl) | exact .fn _ _ _ _ _ .nil (by repeat (first | exact .nil | refine .cons (by exact .ptr _ _ _ rfl) ?_))) ?_)) rfl⟩, trivial⟩))
          by_cases h : i = k
          · rw [h]; exact hd
          · exact hP i (by omega)
      · have hke : k = x.lets.length := by
          have := of_decide_eq_false hc
          omega
        subst hke
        have hb := bodyOf_none hP
        have hg : Grow x.lets e N S N (addS S e.s) := head_none hb
        have h3 : e.op = 3 → e.s ∈ N := fun h => (by omega)
        have h1 : e.op = 1 → e.s ∈ addS S e.s := fun _ => addS_mem.2 (.inr rfl)
        have hal := argsE_len e
        have hlen := hok.alen
        have hu1 : unseen x.lets (addS S e.s) ≤ u := Nat.le_trans (unseen_le hg.s_le) hu
        conv => whnf
        repeat (first | (refine And.intro ⟨by omega, by omega⟩ ?_; conv => whnf) | (refine And.intro (by omega) (And.intro rfl ?_); conv => whnf) | (refine And.intro rfl ?_; conv => whnf) | (refine And.intro (fun _ => ⟨by omega, by omega⟩) ?_; conv => whnf) | (refine And.intro (fun _ => by omega) (And.intro rfl ?_); conv => whnf) | (refine And.intro ⟨(by first | omega | (simp; omega)), (by first | omega | (simp; omega))⟩ ?_; conv => whnf) | (refine Exists.intro _ (And.intro rfl (And.intro (by first | omega | (simp; omega)) (And.intro ⟨rfl, rfl, rfl, rfl, rfl⟩ ?_))); conv => whnf) | (refine And.intro ⟨rfl, rfl⟩ (And.intro (by first | omega | (simp; omega)) ?_); conv => whnf) | (refine Exists.intro _ (And.intro rfl ?_); conv => whnf) | (refine And.intro (fun _ => ?_) (fun h => absurd h (by decide)); conv => whnf) | (refine And.intro (fun h => absurd h (by decide)) (fun _ => ?_); conv => whnf) | (refine .quiet (by kernel_rfl) ?_; conv => whnf))
        refine loop_inv (cxPOk _ _ _) (σ := Nat × List (List UInt8) × List (List UInt8)) (fun s => s.1 ≤ e.args.length ∧ Grow x.lets e N S s.2.1 s.2.2 ∧ (∀ i, i < s.1 → Cvd s.2.1 s.2.2 (e.args.getD i ex0)) ∧ (∀ a ∈ N, a ∈ s.2.1) ∧ (∀ a ∈ (addS S e.s), a ∈ s.2.2)) (fun s => e.args.length - s.1) (fun s => ⟨[(1, .ptr 2 0), (2, .ptr 4 0), (3, .ptr 0 0), (4, .ptr 5 0), (49, .lsl 5 (argsE e)), (50, .int .i64 ((e.args.length : Nat) : Int)), (51, .int .i64 (((s.1) : Nat) : Int))], [(0, .cells 45 (celX x)), (1, .smap encB false (tt (s.2.1))), (2, .cells 64 [.map 1]), (3, .smap encB false (tt (s.2.2))), (4, .cells 64 [.map 3]), (5, .cells 65 [.fn (.func 30) [] [.ptr 2 0, .ptr 4 0, .ptr 0 0, .ptr 5 0]])], 6⟩) (0, N, (addS S e.s)) ⟨Nat.zero_le _, hg, fun i hi => absurd hi (Nat.not_lt_zero _), fun _ h => h, fun _ h => h⟩ ((wk_of [(0, .id 0), (1, .id 1), (2, .id 2), (3, .id 3), (4, .id 4), (5, .id 5)] rfl ⟨.base (.ptr _ _ _ rfl), .base (.ptr _ _ _ rfl), .base (.ptr _ _ _ rfl), .base (.ptr _ _ _ rfl), .base (.tree _ _ rfl rfl), .base (.tree _ _ (show AV.int .i64 _ = AV.int .i64 _ by rw [hal]) rfl), .base (.tree _ _ rfl rfl), trivial⟩ ⟨⟨_, rfl, .cells _ _ _ _ rfl (by repeat (first | exact .nil | refine .cons (by first | exact .base (.tree _ _ rfl rfl) | exact .base (.own _ _ rfl) | exact .base (.ptr _ _ _ rfl) | exact .base (.map _ _ rfl) | exact .base (.nilown _ rfl) | exact .fn _ _ _ _ _ .nil (by repeat (first | exact .nil | refine .cons (by exact .ptr _ _ _ rfl) ?_))) ?_)) rfl⟩, ⟨_, rfl, (by first | exact .smap _ _ _ _ _ rfl rfl | exact .newsmap _ _ _ _ _ _ _ rfl rfl rfl)⟩, ⟨_, rfl, .cells _ _ _ _ rfl (by repeat (first | exact .nil | refine .cons (by first | exact .base (.tree _ _ rfl rfl) | exact .base (.own _ _ rfl) | exact .base (.ptr _ _ _ rfl) | exact .base (.map _ _ rfl) | exact .base (.nilown _ rfl) | exact .fn _ _ _ _ _ .nil (by repeat (first | exact .nil | refine .cons (by exact .ptr _ _ _ rfl) ?_))) ?_)) rfl⟩, ⟨_, rfl, (by first | exact .smap _ _ _ _ _ rfl rfl | exact .newsmap _ _ _ _ _ _ _ rfl rfl rfl)⟩, ⟨_, rfl, .cells _ _ _ _ rfl (by repeat (first | exact .nil | refine .cons (by first | exact .base (.tree _ _ rfl rfl) | exact .base (.own _ _ rfl) | exact .base (.ptr _ _ _ rfl) | exact .base (.map _ _ rfl) | exact .base (.nilown _ rfl) | exact .fn _ _ _ _ _ .nil (by repeat (first | exact .nil | refine .cons (by exact .ptr _ _ _ rfl) ?_))) ?_)) rfl⟩, ⟨_, rfl, .cells _ _ _ _ rfl (by repeat (first | exact .nil | refine .cons (by first | exact .base (.tree _ _ rfl rfl) | exact .base (.own _ _ rfl) | exact .base (.ptr _ _ _ rfl) | exact .base (.map _ _ rfl) | exact .base (.nilown _ rfl) | exact .fn _ _ _ _ _ .nil (by repeat (first | exact .nil | refine .cons (by exact .ptr _ _ _ rfl) ?_))) ?_)) rfl⟩, trivial⟩)) ?_
        rintro ⟨k, N2, S2⟩ ⟨hk, hg2, hc2, hn2, hs2⟩
        show evCode _ _ (⟨[(1, .ptr 2 0), (2, .ptr 4 0), (3, .ptr 0 0), (4, .ptr 5 0), (49, .lsl 5 (argsE e)), (50, .int .i64 ((e.args.length : Nat) : Int)), (51, .int .i64 ((k : Nat) : Int))], [(0, .cells 45 (celX x)), (1, .smap encB false (tt N2)), (2, .cells 64 [.map 1]), (3, .smap encB false (tt S2)), (4, .cells 64 [.map 3]), (5, .cells 65 [.fn (.func 30) [] [.ptr 2 0, .ptr 4 0, .ptr 0 0, .ptr 5 0]])], 6⟩) _
        simp only at hk hg2 hc2 hn2 hs2
        have hek : (k : Int).toNat = k := Int.toNat_natCast k
        conv => whnf
        refine ⟨fun hc => ?_, fun hc => ?_⟩
        · have hlt : k < e.args.length := by
            have := of_decide_eq_true hc
            omega
          have hmem : e.args.getD k ex0 ∈ e.args := getD_mem hlt
          have hsz := args_lt e hmem
          have hget := argsE_get e hlt
          have hu2 : unseen x.lets S2 ≤ u := Nat.le_trans (unseen_le hg2.s_le) hu
          conv => whnf
          repeat (first | (refine And.intro ⟨by omega, by omega⟩ ?_; conv => whnf) | (refine And.intro (by omega) (And.intro rfl ?_); conv => whnf) | (refine And.intro rfl ?_; conv => whnf) | (refine And.intro (fun _ => ⟨by omega, by omega⟩) ?_; conv => whnf) | (refine And.intro (fun _ => by omega) (And.intro rfl ?_); conv => whnf) | (refine And.intro ⟨(by first | omega | (simp; omega)), (by first | omega | (simp; omega))⟩ ?_; conv => whnf) | (refine Exists.intro _ (And.intro rfl (And.intro (by first | omega | (simp; omega)) (And.intro ⟨rfl, rfl, rfl, rfl, rfl⟩ ?_))); conv => whnf) | (refine And.intro ⟨rfl, rfl⟩ (And.intro (by first | omega | (simp; omega)) ?_); conv => whnf) | (refine Exists.intro _ (And.intro rfl ?_); conv => whnf) | (refine And.intro (fun _ => ?_) (fun h => absurd h (by decide)); conv => whnf) | (refine And.intro (fun h => absurd h (by decide)) (fun _ => ?_); conv => whnf) | (refine .quiet (by kernel_rfl) ?_; conv => whnf))
          rw [hek, hget]
          conv => whnf
          repeat (first | (refine And.intro ⟨by omega, by omega⟩ ?_; conv => whnf) | (refine And.intro (by omega) (And.intro rfl ?_); conv => whnf) | (refine And.intro rfl ?_; conv => whnf) | (refine And.intro (fun _ => ⟨by omega, by omega⟩) ?_; conv => whnf) | (refine And.intro (fun _ => by omega) (And.intro rfl ?_); conv => whnf) | (refine And.intro ⟨(by first | omega | (simp; omega)), (by first | omega | (simp; omega))⟩ ?_; conv => whnf) | (refine Exists.intro _ (And.intro rfl (And.intro (by first | omega | (simp; omega)) (And.intro ⟨rfl, rfl, rfl, rfl, rfl⟩ ?_))); conv => whnf) | (refine And.intro ⟨rfl, rfl⟩ (And.intro (by first | omega | (simp; omega)) ?_); conv => whnf) | (refine Exists.intro _ (And.intro rfl ?_); conv => whnf) | (refine And.intro (fun _ => ?_) (fun h => absurd h (by decide)); conv => whnf) | (refine And.intro (fun h => absurd h (by decide)) (fun _ => ?_); conv => whnf) | (refine .quiet (by kernel_rfl) ?_; conv => whnf))
          refine .raw [0, 1, 2, 3, 4, 5] _ rfl (fun h => by cases h) (ihz _ (Nat.lt_of_lt_of_le hsz hz) (e.args.getD k ex0) N2 S2 (hok.arg _ hmem) hu2 (Nat.le_refl _) _ _ rfl) ?_
          rintro r ⟨N3, S3, hp3, rfl⟩
          refine ⟨Nat.le_refl _, ?_⟩
          conv => whnf
          repeat (first | (refine And.intro ⟨by omega, by omega⟩ ?_; conv => whnf) | (refine And.intro (by omega) (And.intro rfl ?_); conv => whnf) | (refine And.intro rfl ?_; conv => whnf) | (refine And.intro (fun _ => ⟨by omega, by omega⟩) ?_; conv => whnf) | (refine And.intro (fun _ => by omega) (And.intro rfl ?_); conv => whnf) | (refine And.intro ⟨(by first | omega | (simp; omega)), (by first | omega | (simp; omega))⟩ ?_; conv => whnf) | (refine Exists.intro _ (And.intro rfl (And.intro (by first | omega | (simp; omega)) (And.intro ⟨rfl, rfl, rfl, rfl, rfl⟩ ?_))); conv => whnf) | (refine And.intro ⟨rfl, rfl⟩ (And.intro (by first | omega | (simp; omega)) ?_); conv => whnf) | (refine Exists.intro _ (And.intro rfl ?_); conv => whnf) | (refine And.intro (fun _ => ?_) (fun h => absurd h (by decide)); conv => whnf) | (refine And.intro (fun h => absurd h (by decide)) (fun _ => ?_); conv => whnf) | (refine .quiet (by kernel_rfl) ?_; conv => whnf))
          refine ⟨(k + 1, N3, S3), ⟨hlt, grow_arg hmem hg2 hp3, fun i hi => ?_, fun a ha => hp3.grow.n_le a (hn2 a ha), fun a ha => hp3.grow.s_le a (hs2 a ha)⟩, by show e.args.length - (k + 1) < e.args.length - k; omega, (wk_of [(0, .id 0), (1, .id 1), (2, .id 2), (3, .id 3), (4, .id 4), (5, .id 5)] rfl ⟨.base (.ptr _ _ _ rfl), .base (.ptr _ _ _ rfl), .base (.ptr _ _ _ rfl), .base (.ptr _ _ _ rfl), .base (.tree _ _ rfl rfl), .base (.tree _ _ rfl rfl), .base (.tree _ _ rfl rfl), trivial⟩ ⟨⟨_, rfl, .cells _ _ _ _ rfl (by repeat (first | exact .nil | refine .cons (by first | exact .base (.tree _ _ rfl rfl) | exact .base (.own _ _ rfl) | exact .base (.ptr _ _ _ rfl) | exact .base (.map _ _ rfl) | exact .base (.nilown _ rfl) | exact .fn _ _ _ _ _ .nil (by repeat (first | exact .nil | refine .cons (by exact .ptr _ _ _ rfl) ?_))) ?_)) rfl⟩, ⟨_, rfl, (by first | exact .smap _ _ _ _ _ rfl rfl | exact .newsmap _ _ _ _ _ _ _ rfl rfl rfl)⟩, ⟨_, rfl, .cells _ _ _ _ rfl (by repeat (first | exact .nil | refine .cons (by first | exact .base (.tree _ _ rfl rfl) | exact .base (.own _ _ rfl) | exact .base (.ptr _ _ _ rfl) | exact .base (.map _ _ rfl) | exact .base (.nilown _ rfl) | exact .fn _ _ _ _ _ .nil (by repeat (first | exact .nil | refine .cons (by exact .ptr _ _ _ rfl) ?_))) ?_)) rfl⟩, ⟨_, rfl, (by first | exact .smap _ _ _ _ _ rfl rfl | exact .newsmap _ _ _ _ _ _ _ rfl rfl rfl)⟩, ⟨_, rfl, .cells _ _ _ _ rfl (by repeat (first | exact .nil | refine .cons (by first | exact .base (.tree _ _ rfl rfl) | exact .base (.own _ _ rfl) | exact .base (.ptr _ _ _ rfl) | exact .base (.map _ _ rfl) | exact .base (.nilown _ rfl) | exact .fn _ _ _ _ _ .nil (by repeat (first | exact .nil | refine .cons (by exact .ptr _ _ _ rfl) ?_))) ?_)) rfl⟩, ⟨_, rfl, .cells _ _ _ _ rfl (by repeat (first | exact .nil | refine .cons (by first | exact .base (.tree _ _ rfl rfl) | exact .base (.own _ _ rfl) | exact .base (.ptr _ _ _ rfl) | exact .base (.map _ _ rfl) | exact .base (.nilown _ rfl) | exact .fn _ _ _ _ _ .nil (by repeat (first | exact .nil | refine .cons (by exact .ptr _ _ _ rfl) ?_))) ?_)) rfl⟩, trivial⟩)⟩
          show Cvd N3 S3 (e.args.getD i ex0)
          have hi' : i < k + 1 := hi
          by_cases h : i = k
          · subst h
            exact hp3.cov
          · exact (hc2 i (by omega)).le hp3.grow.n_le hp3.grow.s_le
        · have hke : k = e.args.length := by
            have := of_decide_eq_false hc
            omega
          subst hke
          conv => whnf
          refine ⟨rfl, rfl, rfl, ?_⟩
          conv => whnf
          refine ⟨rfl, N2, S2, post_end hg2 (fun h => hn2 _ (h3 h)) (fun h => hs2 _ (h1 h)) fun a ha => ?_, _, rfl⟩
          obtain ⟨i, hi, rfl⟩ := mem_getD (d := ex0) ha
          exact hc2 i hi
    · rw [Bool.and_eq_false_iff, decide_eq_false_iff_not, Bool.not_eq_false', decide_eq_true_eq] at c1
      have hg : Grow x.lets e N S N S := Grow.refl _ _ _ _
      have h3 : e.op = 3 → e.s ∈ N := fun h => absurd h c0
      have h1 : e.op = 1 → e.s ∈ S := fun h => c1.resolve_left (fun h' => h' h)
      have hal := argsE_len e
      have hlen := hok.alen
      have hu1 : unseen x.lets S ≤ u := Nat.le_trans (unseen_le hg.s_le) hu
      conv => whnf
      repeat (first | (refine And.intro ⟨by omega, by omega⟩ ?_; conv => whnf) | (refine And.intro (by omega) (And.intro rfl ?_); conv => whnf) | (refine And.intro rfl ?_; conv => whnf) | (refine And.intro (fun _ => ⟨by omega, by omega⟩) ?_; conv => whnf) | (refine And.intro (fun _ => by omega) (And.intro rfl ?_); conv => whnf) | (refine And.intro ⟨(by first | omega | (simp; omega)), (by first | omega | (simp; omega))⟩ ?_; conv => whnf) | (refine Exists.intro _ (And.intro rfl (And.intro (by first | omega | (simp; omega)) (And.intro ⟨rfl, rfl, rfl, rfl, rfl⟩ ?_))); conv => whnf) | (refine And.intro ⟨rfl, rfl⟩ (And.intro (by first | omega | (simp; omega)) ?_); conv => whnf) | (refine Exists.intro _ (And.intro rfl ?_); conv => whnf) | (refine And.intro (fun _ => ?_) (fun h => absurd h (by decide)); conv => whnf) | (refine And.intro (fun h => absurd h (by decide)) (fun _ => ?_); conv => whnf) | (refine .quiet (by kernel_rfl) ?_; conv => whnf))
      refine loop_inv (cxPOk _ _ _) (σ := Nat × List (List UInt8) × List (List UInt8)) (fun s => s.1 ≤ e.args.length ∧ Grow x.lets e N S s.2.1 s.2.2 ∧ (∀ i, i < s.1 → Cvd s.2.1 s.2.2 (e.args.getD i ex0)) ∧ (∀ a ∈ N, a ∈ s.2.1) ∧ (∀ a ∈ S, a ∈ s.2.2)) (fun s => e.args.length - s.1) (fun s => ⟨[(1, .ptr 2 0), (2, .ptr 4 0), (3, .ptr 0 0), (4, .ptr 5 0), (49, .lsl 5 (argsE e)), (50, .int .i64 ((e.args.length : Nat) : Int)), (51, .int .i64 (((s.1) : Nat) : Int))], [(0, .cells 45 (celX x)), (1, .smap encB false (tt (s.2.1))), (2, .cells 64 [.map 1]), (3, .smap encB false (tt (s.2.2))), (4, .cells 64 [.map 3]), (5, .cells 65 [.fn (.func 30) [] [.ptr 2 0, .ptr 4 0, .ptr 0 0, .ptr 5 0]])], 6⟩) (0, N, S) ⟨Nat.zero_le _, hg, fun i hi => absurd hi (Nat.not_lt_zero _), fun _ h => h, fun _ h => h⟩ ((wk_of [(0, .id 0), (1, .id 1), (2, .id 2), (3, .id 3), (4, .id 4), (5, .id 5)] rfl ⟨.base (.ptr _ _ _ rfl), .base (.ptr _ _ _ rfl), .base (.ptr _ _ _ rfl), .base (.ptr _ _ _ rfl), .base (.tree _ _ rfl rfl), .base (.tree _ _ (show AV.int .i64 _ = AV.int .i64 _ by rw [hal]) rfl), .base (.tree _ _ rfl rfl), trivial⟩ ⟨⟨_, rfl, .cells _ _ _ _ rfl (by repeat (first | exact .nil | refine .cons (by first | exact .base (.tree _ _ rfl rfl) | exact .base (.own _ _ rfl) | exact .base (.ptr _ _ _ rfl) | exact .base (.map _ _ rfl) | exact .base (.nilown _ rfl) | exact .fn _ _ _ _ _ .nil (by repeat (first | exact .nil | refine .cons (by exact .ptr _ _ _ rfl) ?_))) ?_)) rfl⟩, ⟨_, rfl, (by first | exact .smap _ _ _ _ _ rfl rfl | exact .newsmap _ _ _ _ _ _ _ rfl rfl rfl)⟩, ⟨_, rfl, .cells _ _ _ _ rfl (by repeat (first | exact .nil | refine .cons (by first | exact .base (.tree _ _ rfl rfl) | exact .base (.own _ _ rfl) | exact .base (.ptr _ _ _ rfl) | exact .base (.map _ _ rfl) | exact .base (.nilown _ rfl) | exact .fn _ _ _ _ _ .nil (by repeat (first | exact .nil | refine .cons (by exact .ptr _ _ _ rfl) ?_))) ?_)) rfl⟩, ⟨_, rfl, (by first | exact .smap _ _ _ _ _ rfl rfl | exact .newsmap _ _ _ _ _ _ _ rfl rfl rfl)⟩, ⟨_, rfl, .cells _ _ _ _ rfl (by repeat (first | exact .nil | refine .cons (by first | exact .base (.tree _ _ rfl rfl) | exact .base (.own _ _ rfl) | exact .base (.ptr _ _ _ rfl) | exact .base (.map _ _ rfl) | exact .base (.nilown _ rfl) | exact .fn _ _ _ _ _ .nil (by repeat (first | exact .nil | refine .cons (by exact .ptr _ _ _ rfl) ?_))) ?_)) rfl⟩, ⟨_, rfl, .cells _ _ _ _ rfl (by repeat (first | exact .nil | refine .cons (by first | exact .base (.tree _ _ rfl rfl) | exact .base (.own _ _ rfl) | exact .base (.ptr _ _ _ rfl) | exact .base (.map _ _ rfl) | exact .base (.nilown _ rfl) | exact .fn _ _ _ _ _ .nil (by repeat (first | exact .nil | refine .cons (by exact .ptr _ _ _ rfl) ?_))) ?_)) rfl⟩, trivial⟩)) ?_
      rintro ⟨k, N2, S2⟩ ⟨hk, hg2, hc2, hn2, hs2⟩
      show evCode _ _ (⟨[(1, .ptr 2 0), (2, .ptr 4 0), (3, .ptr 0 0), (4, .ptr 5 0), (49, .lsl 5 (argsE e)), (50, .int .i64 ((e.args.length : Nat) : Int)), (51, .int .i64 ((k : Nat) : Int))], [(0, .cells 45 (celX x)), (1, .smap encB false (tt N2)), (2, .cells 64 [.map 1]), (3, .smap encB false (tt S2)), (4, .cells 64 [.map 3]), (5, .cells 65 [.fn (.func 30) [] [.ptr 2 0, .ptr 4 0, .ptr 0 0, .ptr 5 0]])], 6⟩) _
      simp only at hk hg2 hc2 hn2 hs2
      have hek : (k : Int).toNat = k := Int.toNat_natCast k
      conv => whnf
      refine ⟨fun hc => ?_, fun hc => ?_⟩
      · have hlt : k < e.args.length := by
          have := of_decide_eq_true hc
          omega
        have hmem : e.args.getD k ex0 ∈ e.args := getD_mem hlt
        have hsz := args_lt e hmem
        have hget := argsE_get e hlt
        have hu2 : unseen x.lets S2 ≤ u := Nat.le_trans (unseen_le hg2.s_le) hu
        conv => whnf
        repeat (first | (refine And.intro ⟨by omega, by omega⟩ ?_; conv => whnf) | (refine And.intro (by omega) (And.intro rfl ?_); conv => whnf) | (refine And.intro rfl ?_; conv => whnf) | (refine And.intro (fun _ => ⟨by omega, by omega⟩) ?_; conv => whnf) | (refine And.intro (fun _ => by omega) (And.intro rfl ?_); conv => whnf) | (refine And.intro ⟨(by first | omega | (simp; omega)), (by first | omega | (simp; omega))⟩ ?_; conv => whnf) | (refine Exists.intro _ (And.intro rfl (And.intro (by first | omega | (simp; omega)) (And.intro ⟨rfl, rfl, rfl, rfl, rfl⟩ ?_))); conv => whnf) | (refine And.intro ⟨rfl, rfl⟩ (And.intro (by first | omega | (simp; omega)) ?_); conv => whnf) | (refine Exists.intro _ (And.intro rfl ?_); conv => whnf) | (refine And.intro (fun _ => ?_) (fun h => absurd h (by decide)); conv => whnf) | (refine And.intro (fun h => absurd h (by decide)) (fun _ => ?_); conv => whnf) | (refine .quiet (by kernel_rfl) ?_; conv => whnf))
        rw [hek, hget]
        conv => whnf
        repeat (first | (refine And.intro ⟨by omega, by omega⟩ ?_; conv => whnf) | (refine And.intro (by omega) (And.intro rfl ?_); conv => whnf) | (refine And.intro rfl ?_; conv => whnf) | (refine And.intro (fun _ => ⟨by omega, by omega⟩) ?_; conv => whnf) | (refine And.intro (fun _ => by omega) (And.intro rfl ?_); conv => whnf) | (refine And.intro ⟨(by first | omega | (simp; omega)), (by first | omega | (simp; omega))⟩ ?_; conv => whnf) | (refine Exists.intro _ (And.intro rfl (And.intro (by first | omega | (simp; omega)) (And.intro ⟨rfl, rfl, rfl, rfl, rfl⟩ ?_))); conv => whnf) | (refine And.intro ⟨rfl, rfl⟩ (And.intro (by first | omega | (simp; omega)) ?_); conv => whnf) | (refine Exists.intro _ (And.intro rfl ?_); conv => whnf) | (refine And.intro (fun _ => ?_) (fun h => absurd h (by decide)); conv => whnf) | (refine And.intro (fun h => absurd h (by decide)) (fun _ => ?_); conv => whnf) | (refine .quiet (by kernel_rfl) ?_; conv => whnf))
        refine .raw [0, 1, 2, 3, 4, 5] _ rfl (fun h => by cases h) (ihz _ (Nat.lt_of_lt_of_le hsz hz) (e.args.getD k ex0) N2 S2 (hok.arg _ hmem) hu2 (Nat.le_refl _) _ _ rfl) ?_
        rintro r ⟨N3, S3, hp3, rfl⟩
        refine ⟨Nat.le_refl _, ?_⟩
        conv => whnf
        repeat (first | (refine And.intro ⟨by omega, by omega⟩ ?_; conv => whnf) | (refine And.intro (by omega) (And.intro rfl ?_); conv => whnf) | (refine And.intro rfl ?_; conv => whnf) | (refine And.intro (fun _ => ⟨by omega, by omega⟩) ?_; conv => whnf) | (refine And.intro (fun _ => by omega) (And.intro rfl ?_); conv => whnf) | (refine And.intro ⟨(by first | omega | (simp; omega)), (by first | omega | (simp; omega))⟩ ?_; conv => whnf) | (refine Exists.intro _ (And.intro rfl (And.intro (by first | omega | (simp; omega)) (And.intro ⟨rfl, rfl, rfl, rfl, rfl⟩ ?_))); conv => whnf) | (refine And.intro ⟨rfl, rfl⟩ (And.intro (by first | omega | (simp; omega)) ?_); conv => whnf) | (refine Exists.intro _ (And.intro rfl ?_); conv => whnf) | (refine And.intro (fun _ => ?_) (fun h => absurd h (by decide)); conv => whnf) | (refine And.intro (fun h => absurd h (by decide)) (fun _ => ?_); conv => whnf) | (refine .quiet (by kernel_rfl) ?_; conv => whnf))
        refine ⟨(k + 1, N3, S3), ⟨hlt, grow_arg hmem hg2 hp3, fun i hi => ?_, fun a ha => hp3.grow.n_le a (hn2 a ha), fun a ha => hp3.grow.s_le a (hs2 a ha)⟩, by show e.args.length - (k + 1) < e.args.length - k; omega, (wk_of [(0, .id 0), (1, .id 1), (2, .id 2), (3, .id 3), (4, .id 4), (5, .id 5)] rfl ⟨.base (.ptr _ _ _ rfl), .base (.ptr _ _ _ rfl), .base (.ptr _ _ _ rfl), .base (.ptr _ _ _ rfl), .base (.tree _ _ rfl rfl), .base (.tree _ _ rfl rfl), .base (.tree _ _ rfl rfl), trivial⟩ ⟨⟨_, rfl, .cells _ _ _ _ rfl (by repeat (first | exact .nil | refine .cons (by first | exact .base (.tree _ _ rfl rfl) | exact .base (.own _ _ rfl) | exact .base (.ptr _ _ _ rfl) | exact .base (.map _ _ rfl) | exact .base (.nilown _ rfl) | exact .fn _ _ _ _ _ .nil (by repeat (first | exact .nil | refine .cons (by exact .ptr _ _ _ rfl) ?_))) ?_)) rfl⟩, ⟨_, rfl, (by first | exact .smap _ _ _ _ _ rfl rfl | exact .newsmap _ _ _ _ _ _ _ rfl rfl rfl)⟩, ⟨_, rfl, .cells _ _ _ _ rfl (by repeat (first | exact .nil | refine .cons (by first | exact .base (.tree _ _ rfl rfl) | exact .base (.own _ _ rfl) | exact .base (.ptr _ _ _ rfl) | exact .base (.map _ _ rfl) | exact .base (.nilown _ rfl) | exact .fn _ _ _ _ _ .nil (by repeat (first | exact .nil | refine .cons (by exact .ptr _ _ _ rfl) ?_))) ?_)) rfl⟩, ⟨_, rfl, (by first | exact .smap _ _ _ _ _ rfl rfl | exact .newsmap _ _ _ _ _ _ _ rfl rfl rfl)⟩, ⟨_, rfl, .cells _ _ _ _ rfl (by repeat (first | exact .nil | refine .cons (by first | exact .base (.tree _ _ rfl rfl) | exact .base (.own _ _ rfl) | exact .base (.ptr _ _ _ rfl) | exact .base (.map _ _ rfl) | exact .base (.nilown _ rfl) | exact .fn _ _ _ _ _ .nil (by repeat (first | exact .nil | refine .cons (by exact .ptr _ _ _ rfl) ?_))) ?_)) rfl⟩, ⟨_, rfl, .cells _ _ _ _ rfl (by repeat (first | exact .nil | refine .cons (by first | exact .base (.tree _ _ rfl rfl) | exact .base (.own _ _ rfl) | exact .base (.ptr _ _ _ rfl) | exact .base (.map _ _ rfl) | exact .base (.nilown _ rfl) | exact .fn _ _ _ _ _ .nil (by repeat (first | exact .nil | refine .cons (by exact .ptr _ _ _ rfl) ?_))) ?_)) rfl⟩, trivial⟩)⟩
        show Cvd N3 S3 (e.args.getD i ex0)
        have hi' : i < k + 1 := hi
        by_cases h : i = k
        · subst h
          exact hp3.cov
        · exact (hc2 i (by omega)).le hp3.grow.n_le hp3.grow.s_le
      · have hke : k = e.args.length := by
          have := of_decide_eq_false hc
          omega
        subst hke
        conv => whnf
        refine ⟨rfl, rfl, rfl, ?_⟩
        conv => whnf
        refine ⟨rfl, N2, S2, post_end hg2 (fun h => hn2 _ (h3 h)) (fun h => hs2 _ (h1 h)) fun a ha => ?_, _, rfl⟩
        obtain ⟨i, hi, rfl⟩ := mem_getD (d := ex0) ha
        exact hc2 i hi
  · rintro ⟨v, t, wr, n'⟩ ⟨n, ⟨N', S', hp, k, hr⟩, hn⟩
    refine ⟨N', S', hp, ?_⟩
    simp only [Res.mk.injEq] at hr hn ⊢
    exact ⟨hr.1, hr.2.1, hr.2.2.1, hn⟩

end Go.Proofs.Ytmcgfkkagijcmaa

/-
  DERIVED: THE SHELF's CONTRACTS AT THIS DUMP, IN PLAIN WORDS (tools/lay-plain.mjs out of 'QyShelf0.lean', which tools/lay-shelf.mjs wrote): THE SAME DECLARATIONS UNDER THE SAME NAMES: 'import', 'namespace', 'open', 'def', 'theorem' AND NOTHING ELSE: no command of the shelf's: FOR A HAND-IN. Each laying: the table of numbers ('.._ren') and one theorem, a field a fact of the dump's own or the kernel's comparison; each contract: ONE APPLICATION.
-/
namespace Go.Proofs.Ytmcgfkkagijcmaa
open Go.Proofs
open Go.Shelf
def Try.sortA_ren : Go.Shelf.Ren := ⟨fun | 5 => 22 | 8 => 34 | 7 => 33 | 19 => 49 | 20 => 50 | 10 => 40 | 11 => 41 | 12 => 42 | 13 => 43 | 14 => 44 | 15 => 45 | 16 => 46 | 17 => 47 | 18 => 48 | 30 => 51 | 31 => 52 | 32 => 53 | 33 => 54 | 34 => 55 | 35 => 56 | 40 => 57 | n => n, fun | 23 => 24 | 25 => 3 | 3 => 3 | 32 => 72 | 22 => 24 | 0 => 0 | 44 => 88 | 46 => 90 | 4 => 4 | 36 => 81 | 35 => 80 | 41 => 56 | 5 => 5 | 9 => 9 | 53 => 91 | 57 => 95 | 63 => 98 | 64 => 99 | n => n, fun | n => n⟩
theorem Try.sortA : Go.Proofs.SlLaysM.n5 Try.prog Try.sortA_ren := {
  mixed := by kernel_rfl
  f5 := ⟨Try.f22.name, by decide, Try.func22.trans (congrArg some (by kernel_rfl))⟩
  f7 := ⟨Try.f33.name, by decide, Try.func33.trans (congrArg some (by kernel_rfl))⟩
  f8 := Try.func34.trans (congrArg some (by kernel_rfl))
  f10 := ⟨Try.f40.name, by decide, Try.func40.trans (congrArg some (by kernel_rfl))⟩
  f11 := ⟨Try.f41.name, by decide, Try.func41.trans (congrArg some (by kernel_rfl))⟩
  f12 := ⟨Try.f42.name, by decide, Try.func42.trans (congrArg some (by kernel_rfl))⟩
  f13 := ⟨Try.f43.name, by decide, Try.func43.trans (congrArg some (by kernel_rfl))⟩
  f14 := ⟨Try.f44.name, by decide, Try.func44.trans (congrArg some (by kernel_rfl))⟩
  f15 := ⟨Try.f45.name, by decide, Try.func45.trans (congrArg some (by kernel_rfl))⟩
  f16 := ⟨Try.f46.name, by decide, Try.func46.trans (congrArg some (by kernel_rfl))⟩
  f17 := ⟨Try.f47.name, by decide, Try.func47.trans (congrArg some (by kernel_rfl))⟩
  f18 := ⟨Try.f48.name, by decide, Try.func48.trans (congrArg some (by kernel_rfl))⟩
  f19 := Try.func49.trans (congrArg some (by kernel_rfl))
  f20 := Try.func50.trans (congrArg some (by kernel_rfl))
  f30 := ⟨Try.f51.name, by decide, Try.func51.trans (congrArg some (by kernel_rfl))⟩
  f31 := Try.func52.trans (congrArg some (by kernel_rfl))
  f32 := Try.func53.trans (congrArg some (by kernel_rfl))
  f33 := ⟨Try.f54.name, by decide, Try.func54.trans (congrArg some (by kernel_rfl))⟩
  f34 := ⟨Try.f55.name, by decide, Try.func55.trans (congrArg some (by kernel_rfl))⟩
  f35 := ⟨Try.f56.name, by decide, Try.func56.trans (congrArg some (by kernel_rfl))⟩
  f40 := ⟨Try.f57.name, by decide, Try.func57.trans (congrArg some (by kernel_rfl))⟩
  t0 := Try.underlying0
  a0 := Try.isAgg0
  z0 := Try.sizeOf0
  v0 := Try.zeroValue0
  t3 := Try.underlying3
  a3 := Try.isAgg3
  z3 := Try.sizeOf3
  v3 := Try.zeroValue3
  t4 := Try.underlying4
  a4 := Try.isAgg4
  z4 := Try.sizeOf4
  v4 := Try.zeroValue4
  t5 := Try.underlying5
  a5 := Try.isAgg5
  z5 := Try.sizeOf5
  v5 := Try.zeroValue5
  t9 := Try.underlying9
  a9 := Try.isAgg9
  z9 := Try.sizeOf9
  v9 := Try.zeroValue9
  t22 := Try.underlying24
  a22 := Try.isAgg24
  z22 := Try.sizeOf24
  v22 := Try.zeroValue24
  t23 := Try.underlying24
  a23 := Try.isAgg24
  z23 := Try.sizeOf24
  v23 := Try.zeroValue24
  t25 := Try.underlying3
  a25 := Try.isAgg3
  z25 := Try.sizeOf3
  v25 := Try.zeroValue3
  t32 := Try.underlying72
  a32 := Try.isAgg72
  z32 := Try.sizeOf72
  v32 := Try.zeroValue72
  t35 := Try.underlying80
  a35 := Try.isAgg80
  z35 := Try.sizeOf80
  v35 := Try.zeroValue80
  t36 := Try.underlying81
  a36 := Try.isAgg81
  z36 := Try.sizeOf81
  v36 := Try.zeroValue81
  t41 := Try.underlying56
  a41 := Try.isAgg56
  z41 := Try.sizeOf56
  v41 := Try.zeroValue56
  t44 := Try.underlying88
  a44 := Try.isAgg88
  z44 := Try.sizeOf88
  v44 := Try.zeroValue88
  t46 := Try.underlying90
  a46 := Try.isAgg90
  z46 := Try.sizeOf90
  v46 := Try.zeroValue90
  t53 := Try.underlying91
  a53 := Try.isAgg91
  z53 := Try.sizeOf91
  v53 := Try.zeroValue91
  t57 := Try.underlying95
  a57 := Try.isAgg95
  z57 := Try.sizeOf95
  v57 := Try.zeroValue95
  t63 := Try.underlying98
  a63 := Try.isAgg98
  z63 := Try.sizeOf98
  v63 := Try.zeroValue98
  t64 := Try.underlying99
  a64 := Try.isAgg99
  z64 := Try.sizeOf99
  v64 := Try.zeroValue99 }
def Try.keysA_ren : Go.Shelf.Ren := ⟨fun | 7 => 32 | 10 => 39 | n => n, fun | 23 => 64 | 26 => 9 | 3 => 4 | 28 => 68 | 0 => 0 | 27 => 67 | 33 => 78 | 4 => 4 | n => n, fun | n => n⟩
theorem Try.keysA : Go.Proofs.SlLaysZ.n7 Try.prog Try.keysA_ren := {
  mixed := by kernel_rfl
  f7 := ⟨Try.f32.name, by decide, Try.func32.trans (congrArg some (by kernel_rfl))⟩
  f10 := ⟨Try.f39.name, by decide, Try.func39.trans (congrArg some (by kernel_rfl))⟩
  t0 := Try.underlying0
  a0 := Try.isAgg0
  z0 := Try.sizeOf0
  v0 := Try.zeroValue0
  t4 := Try.underlying4
  a4 := Try.isAgg4
  z4 := Try.sizeOf4
  v4 := Try.zeroValue4
  t23 := Try.underlying64
  a23 := Try.isAgg64
  z23 := Try.sizeOf64
  v23 := Try.zeroValue64
  t26 := Try.underlying9
  a26 := Try.isAgg9
  z26 := Try.sizeOf9
  v26 := Try.zeroValue9
  t27 := Try.underlying67
  a27 := Try.isAgg67
  z27 := Try.sizeOf67
  v27 := Try.zeroValue67
  t28 := Try.underlying68
  a28 := Try.isAgg68
  z28 := Try.sizeOf68
  v28 := Try.zeroValue68
  t33 := Try.underlying78
  a33 := Try.isAgg78
  z33 := Try.sizeOf78
  v33 := Try.zeroValue78 }
def Try.collA_ren : Go.Shelf.Ren := ⟨fun | 8 => 31 | 11 => 38 | n => n, fun | 26 => 9 | 28 => 68 | 24 => 42 | 0 => 0 | 33 => 78 | 4 => 4 | n => n, fun | n => n⟩
theorem Try.collA : Go.Proofs.SlLaysZ.n8 Try.prog Try.collA_ren := {
  mixed := by kernel_rfl
  f8 := ⟨Try.f31.name, by decide, Try.func31.trans (congrArg some (by kernel_rfl))⟩
  f11 := ⟨Try.f38.name, by decide, Try.func38.trans (congrArg some (by kernel_rfl))⟩
  t0 := Try.underlying0
  a0 := Try.isAgg0
  z0 := Try.sizeOf0
  v0 := Try.zeroValue0
  t24 := Try.underlying42
  a24 := Try.isAgg42
  z24 := Try.sizeOf42
  v24 := Try.zeroValue42
  t26 := Try.underlying9
  a26 := Try.isAgg9
  z26 := Try.sizeOf9
  v26 := Try.zeroValue9
  t28 := Try.underlying68
  a28 := Try.isAgg68
  z28 := Try.sizeOf68
  v28 := Try.zeroValue68
  i26 := by kernel_rfl }
end Go.Proofs.Ytmcgfkkagijcmaa

namespace Go.Proofs.Ytmcgfkkagijcmaa
open Go.Own Go.Shelf
set_option maxHeartbeats 4000000
set_option maxRecDepth 100000

mutual
def subs : Exp → List Exp
  | .mk op n u s args => .mk op n u s args :: subsL args
def subsL : List Exp → List Exp
  | [] => []
  | e :: l => subs e ++ subsL l
end
theorem subs_eq (e : Exp) : subs e = e :: subsL e.args := by cases e; rw [subs]; rfl
theorem subsL_mem : ∀ {l : List Exp} {x : Exp}, x ∈ subsL l ↔ ∃ a ∈ l, x ∈ subs a
  | [], x => by simp [subsL]
  | e :: l, x => by rw [subsL, List.mem_append, subsL_mem]; simp
theorem sub_mem {e x : Exp} (h : Sub e x) : x ∈ subs e := by
  induction h with
  | refl e => rw [subs_eq]; exact List.mem_cons_self ..
  | arg ha _ ih => rw [subs_eq]; exact List.mem_cons_of_mem _ (subsL_mem.2 ⟨_, ha, ih⟩)
theorem mem_sub : ∀ {e x : Exp}, x ∈ subs e → Sub e x := by
  intro e
  induction hz : SizeOf.sizeOf e using Nat.strongRecOn generalizing e with
  | _ z ih =>
  intro x hx
  rw [subs_eq] at hx
  rcases List.mem_cons.1 hx with rfl | hx
  · exact .refl _
  · obtain ⟨a, ha, h⟩ := subsL_mem.1 hx
    exact .arg ha (ih _ (by rw [← hz]; exact args_lt e ha) rfl h)
/-- All expressions of an indenture that a walk may meet. -/
def allX (x : Ind) : List Exp := subs x.coupon ++ x.lets.flatMap fun l => subs l.body
theorem sub_trans {a b c : Exp} (h : Sub a b) (k : Sub b c) : Sub a c := by
  induction h with
  | refl => exact k
  | arg ha _ ih => exact .arg ha (ih k)
theorem bodyOf_mem {lets : List LetE} {s : List UInt8} {b : Exp} (h : bodyOf lets s = some b) : ∃ l ∈ lets, l.name = s ∧ l.body = b := by
  unfold bodyOf at h
  cases hf : lets.find? (fun l => decide (l.name = s)) with
  | none => rw [hf] at h; cases h
  | some l =>
    rw [hf] at h
    have h1 := List.find?_some hf
    exact ⟨l, List.mem_of_find?_eq_some hf, by simpa using h1, by simpa using h⟩
theorem reach_all {x : Ind} {e y : Exp} (h : Reach x.lets e y) (he : ∃ r, (r = x.coupon ∨ ∃ l ∈ x.lets, r = l.body) ∧ Sub r e) : y ∈ allX x := by
  induction h with
  | refl e =>
    obtain ⟨r, hr, hs⟩ := he
    unfold allX
    rcases hr with rfl | ⟨l, hl, rfl⟩
    · exact List.mem_append_left _ (sub_mem hs)
    · exact List.mem_append_right _ (List.mem_flatMap.2 ⟨l, hl, sub_mem hs⟩)
  | arg ha _ ih =>
    obtain ⟨r, hr, hs⟩ := he
    exact ih ⟨r, hr, sub_trans hs (.arg ha (.refl _))⟩
  | body h1 hb _ ih =>
    obtain ⟨l, hl, _, rfl⟩ := bodyOf_mem hb
    exact ih ⟨_, .inr ⟨l, hl, rfl⟩, .refl _⟩
/-- The indenture quotes an issue with this name. -/
def Qt (x : Ind) (s : List UInt8) : Prop := ∃ y, Reach x.lets x.coupon y ∧ y.op = 3 ∧ y.s = s
theorem qt_all {x : Ind} {s : List UInt8} (h : Qt x s) : s ∈ (allX x).map (·.s) := by
  obtain ⟨y, hy, _, rfl⟩ := h
  exact List.mem_map.2 ⟨y, reach_all hy ⟨_, .inl rfl, .refl _⟩, rfl⟩
theorem okE_sub {e x : Exp} (h : Sub e x) (hk : OkE e) : OkE x := by
  induction h with
  | refl => exact hk
  | arg ha _ ih => exact ih (hk.arg _ ha)
/-- What is asked of an indenture. -/
structure OkX (x : Ind) : Prop where
  lets : x.lets.length ≤ 1000000
  body : ∀ l ∈ x.lets, OkE l.body
  coupon : OkE x.coupon
  all : (allX x).length ≤ 1000000
theorem OkX.exp {x : Ind} (h : OkX x) : ∀ y ∈ allX x, OkE y := by
  intro y hy
  unfold allX at hy
  rcases List.mem_append.1 hy with h1 | h1
  · exact okE_sub (mem_sub h1) h.coupon
  · obtain ⟨l, hl, h2⟩ := List.mem_flatMap.1 h1
    exact okE_sub (mem_sub h2) (h.body l hl)
theorem nodup_le {A : Type} [DecidableEq A] : ∀ {l r : List A}, l.Nodup → (∀ a ∈ l, a ∈ r) → l.length ≤ r.length
  | [], _, _, _ => Nat.zero_le _
  | a :: l, r, hn, h => by
    rw [List.nodup_cons] at hn
    have ha : a ∈ r := h a (by simp)
    have := nodup_le (l := l) (r := r.erase a) hn.2 fun b hb => (List.mem_erase_of_ne (fun e => hn.1 (by rw [← e]; exact hb))).2 (h b (by simp [hb]))
    rw [List.length_erase_of_mem ha] at this
    have := List.length_pos_of_mem ha
    simp only [List.length_cons]
    omega
theorem qt_len {x : Ind} (h : OkX x) {N : List (List UInt8)} (hn : N.Nodup) (hq : ∀ s, s ∈ N ↔ Qt x s) : N.length ≤ 1000000 := by
  have h1 := nodup_le hn fun s hs => qt_all ((hq s).1 hs)
  rw [List.length_map] at h1
  exact Nat.le_trans h1 h.all

theorem keys_c {id : Nat} (H : Heap) (nx : Nat) : CallSem Try.prog 32 [.map id] H nx [] (fun r => r = ⟨.fn (.func 39) [] [.ptr nx 0], [], [(nx, .cells 64 [.map id])], nx + 1⟩) :=
  keys_sem (ρ := Try.keysA_ren) Try.keysA (fn := Try.f32) Try.func32 rfl (by decide) (.inl ⟨_, rfl⟩) H nx
theorem coll_c {H : Heap} {nx bid id : Nat} {es : List (List UInt8 × Bool)} (hbox : lkH H bid = .cells 64 [.map id]) (hmap : lkH H id = .smap encB false es) (hlen : ∀ p ∈ es, p.1.length ≤ Go.maxLen) (hmax : es.length ≤ 1000000) :
    CallSem Try.prog 31 [.fn (.func 39) [] [.ptr bid 0]] H nx [bid, id] (fun r => ∃ ss : List (List UInt8), ss.Perm (es.map (·.1)) ∧ r = ⟨.own nx, [bid, id], [(nx, .row 9 1 encS [] ss)], nx + 1⟩) :=
  collectKeys_sem (ρ := Try.keysA_ren) (ρs := Try.collA_ren) Try.keysA Try.collA (fn6 := Try.f31) Try.func31 rfl (by decide) (enters_of Try.func39 (by kernel_rfl) rfl) rfl (et := 9) rfl (by kernel_rfl) hbox hmap encS [] (fun _ => rfl) hlen hmax
theorem sort_c {H : Heap} {nx id : Nat} {xs : List Int} (hid : lkH H id = .row 3 1 encI 0 xs) (hmax : xs.length ≤ 1000000) : CallSem Try.prog 22 [.own id] H nx [id] (fun r => r = ⟨.tup [], [id], [(id, .row 3 1 encI 0 (xs.mergeSort leZ))], nx⟩) :=
  sortI_sem (ρ := Try.sortA_ren) Try.sortA ⟨Try.f22, Try.func22, rfl, by decide⟩ (fun _ => rfl) hid hmax

theorem quoted_ok (x : Ind) (hx : OkX x) : APure Try.prog 21 [encX x] (fun rs => ∃ ss : List (List UInt8), ss.Nodup ∧ (∀ s, s ∈ ss ↔ Qt x s) ∧ rs = [.new (.row 9 1 encS [] ss)]) := by
  refine apure_of (C := cx 16 [0, 1, 2, 3, 4, 5]) (cxOk _ _) Try.func21 rfl (by decide) rfl (by exact Nat.le_of_ble_eq_true rfl) (by decide) ?_
  conv => whnf
  repeat (first | (refine And.intro ⟨by omega, by omega⟩ ?_; conv => whnf) | (refine And.intro (by omega) (And.intro rfl ?_); conv => whnf) | (refine And.intro rfl ?_; conv => whnf) | (refine And.intro (fun _ => ⟨by omega, by omega⟩) ?_; conv => whnf) | (refine And.intro (fun _ => by omega) (And.intro rfl ?_); conv => whnf) | (refine And.intro ⟨(by first | omega | (simp; omega)), (by first | omega | (simp; omega))⟩ ?_; conv => whnf) | (refine Exists.intro _ (And.intro rfl (And.intro (by first | omega | (simp; omega)) (And.intro ⟨rfl, rfl, rfl, rfl, rfl⟩ ?_))); conv => whnf) | (refine And.intro ⟨rfl, rfl⟩ (And.intro (by first | omega | (simp; omega)) ?_); conv => whnf) | (refine Exists.intro _ (And.intro rfl ?_); conv => whnf) | (refine And.intro (fun _ => ?_) (fun h => absurd h (by decide)); conv => whnf) | (refine And.intro (fun h => absurd h (by decide)) (fun _ => ?_); conv => whnf) | (refine .quiet (by kernel_rfl) ?_; conv => whnf))
  refine .raw [0, 1, 2, 3, 4, 5] _ rfl (fun h => by cases h) (callSem_made (H' := objs x [] []) (walk_ok x hx.lets hx.body _ _ x.coupon [] [] hx.coupon (Nat.le_refl _) (Nat.le_refl _) _ _ rfl) (fun id hid => ?_)) ?_
  · simp only [List.mem_cons, List.not_mem_nil, or_false] at hid
    rcases hid with rfl | rfl | rfl | rfl | rfl | rfl
    · exact .refl _
    · exact .smap _ _ _ _ _ _ rfl rfl
    · exact .refl _
    · exact .smap _ _ _ _ _ _ rfl rfl
    · exact .refl _
    · exact .refl _
  rintro r ⟨N, S, hp, rfl⟩
  refine ⟨Nat.le_refl _, ?_⟩
  have hq := post_all hp
  have hn := hp.grow.ndn List.nodup_nil
  have hl := qt_len hx hn hq
  conv => whnf
  refine .raw [] _ rfl (fun h => by cases h) (keys_c _ _) ?_
  rintro r rfl
  refine ⟨Nat.le_succ _, ?_⟩
  conv => whnf
  refine .raw [6, 1] _ rfl (fun h => by cases h) (coll_c (id := 1) (bid := 6) (es := tt N) rfl rfl (fun p hp => ?_) (by unfold tt; rw [List.length_map]; exact hl)) ?_
  · unfold tt at hp
    obtain ⟨s, hs, rfl⟩ := List.mem_map.1 hp
    obtain ⟨y, hy, rfl⟩ := List.mem_map.1 (qt_all ((hq s).1 hs))
    exact (hx.exp y hy).slen
  rintro r ⟨ss, hperm, rfl⟩
  have hperm : ss.Perm N := by
    have : (tt N).map (·.1) = N := by unfold tt; rw [List.map_map]; exact List.map_id' _
    rw [this] at hperm
    exact hperm
  refine ⟨Nat.le_succ _, ?_⟩
  conv => whnf
  repeat (first | (refine And.intro ⟨by omega, by omega⟩ ?_; conv => whnf) | (refine And.intro (by omega) (And.intro rfl ?_); conv => whnf) | (refine And.intro rfl ?_; conv => whnf) | (refine And.intro (fun _ => ⟨by omega, by omega⟩) ?_; conv => whnf) | (refine And.intro (fun _ => by omega) (And.intro rfl ?_); conv => whnf) | (refine And.intro ⟨(by first | omega | (simp; omega)), (by first | omega | (simp; omega))⟩ ?_; conv => whnf) | (refine Exists.intro _ (And.intro rfl (And.intro (by first | omega | (simp; omega)) (And.intro ⟨rfl, rfl, rfl, rfl, rfl⟩ ?_))); conv => whnf) | (refine And.intro ⟨rfl, rfl⟩ (And.intro (by first | omega | (simp; omega)) ?_); conv => whnf) | (refine Exists.intro _ (And.intro rfl ?_); conv => whnf) | (refine And.intro (fun _ => ?_) (fun h => absurd h (by decide)); conv => whnf) | (refine And.intro (fun h => absurd h (by decide)) (fun _ => ?_); conv => whnf) | (refine .quiet (by kernel_rfl) ?_; conv => whnf))
  exact ⟨ss, hperm.nodup_iff.2 hn, fun s => (hperm.mem_iff).trans (hq s), rfl⟩

end Go.Proofs.Ytmcgfkkagijcmaa

namespace Go.Proofs.Ytmcgfkkagijcmaa
open Go.Own
set_option maxHeartbeats 4000000
set_option maxRecDepth 100000

theorem ngetD {α : Type} {l : List α} {k : Nat} {d : α} (h : k < l.length) : l.getD k d = l[k] := by
  rw [List.getD_eq_getElem?_getD, List.getElem?_eq_getElem h]; rfl
theorem mget_mset {K V : Type} [DecidableEq K] (m : List (K × V)) (k k' : K) (x : V) : mget (mset m k x) k' = if k = k' then some x else mget m k' := by
  induction m with
  | nil => simp [mset, mget]
  | cons p m ih =>
    obtain ⟨a, b⟩ := p
    by_cases h : a = k
    · subst h
      by_cases h2 : a = k' <;> simp [mset, mget, h2]
    · by_cases h2 : a = k'
      · subst h2
        have h3 : ¬ k = a := fun e => h e.symm
        simp [mset, mget, h, h3]
      · simp [mset, mget, h, h2, ih]

/-- The names' places. -/
def idxM (l : List Ind) : Nat → List (List UInt8 × Int)
  | 0 => []
  | k + 1 => mset (idxM l k) (l.getD k i0).name (k : Int)
theorem idx_some {l : List Ind} : ∀ {n : Nat} {s : List UInt8} {v : Int}, mget (idxM l n) s = some v → ∃ k, k < n ∧ v = (k : Int) ∧ (l.getD k i0).name = s
  | 0, s, v, h => by simp [idxM, mget] at h
  | n + 1, s, v, h => by
    unfold idxM at h
    rw [mget_mset] at h
    split at h
    · rename_i e
      cases h
      exact ⟨n, by omega, rfl, e⟩
    · obtain ⟨k, h1, h2⟩ := idx_some h
      exact ⟨k, by omega, h2⟩
theorem idx_none {l : List Ind} : ∀ {n : Nat} {s : List UInt8}, mget (idxM l n) s = none → ∀ k, k < n → (l.getD k i0).name ≠ s
  | 0, s, _, k, hk => by omega
  | n + 1, s, h, k, hk => by
    unfold idxM at h
    rw [mget_mset] at h
    split at h
    · cases h
    · rename_i e
      by_cases e2 : k = n
      · subst e2; exact e
      · exact idx_none h k (by omega)
/-- No name comes twice. -/
def Once (l : List Ind) : Prop := ∀ i, i < l.length → ∀ k, k < i → (l.getD i i0).name ≠ (l.getD k i0).name
/-- Whatever is quoted is there. -/
def Known (l : List Ind) : Prop := ∀ i, i < l.length → ∀ s, Qt (l.getD i i0) s → ∃ k, k < l.length ∧ (l.getD k i0).name = s
theorem Once.uniq {l : List Ind} (h : Once l) {a b : Nat} (ha : a < l.length) (hb : b < l.length) (e : (l.getD a i0).name = (l.getD b i0).name) : a = b := by
  rcases Nat.lt_trichotomy a b with h1 | h1 | h1
  · exact (h b hb a h1 e.symm).elim
  · exact h1
  · exact (h a ha b h1 e).elim
open Classical in
/-- What an issue quotes. -/
noncomputable def nxt (l : List Ind) (i : Nat) : List Nat := (List.range l.length).filter fun k => decide (Qt (l.getD i i0) (l.getD k i0).name)
theorem nxt_mem {l : List Ind} {i k : Nat} : k ∈ nxt l i ↔ k < l.length ∧ Qt (l.getD i i0) (l.getD k i0).name := by
  simp only [nxt, List.mem_filter, List.mem_range, decide_eq_true_eq]
theorem nxt_asc (l : List Ind) (i : Nat) : (nxt l i).Pairwise (· < ·) := List.Pairwise.filter _ List.pairwise_lt_range
open Classical in
noncomputable def errG (l : List Ind) : Int := if l.length ≤ 400 then if Once l then if Known l then 0 else 11 else 5 else 6
def cs (c : List Nat) : List Int := c.map Int.ofNat
noncomputable def glN (l : List Ind) (n : Nat) : List (List Int) := (List.range n).map fun i => cs (nxt l i)
noncomputable abbrev gl (l : List Ind) : List (List Int) := glN l l.length
theorem glN_succ (l : List Ind) (n : Nat) : glN l (n + 1) = glN l n ++ [cs (nxt l n)] := by
  unfold glN; rw [List.range_succ, List.map_append]; rfl

theorem ascI_eq : ∀ {a b : List Int}, a.Pairwise (· < ·) → b.Pairwise (· < ·) → (∀ x, x ∈ a ↔ x ∈ b) → a = b
  | [], [], _, _, _ => rfl
  | [], y :: b, _, _, h => by simpa using (h y).2 (by simp)
  | x :: a, [], _, _, h => by simpa using (h x).1 (by simp)
  | x :: a, y :: b, ha, hb, h => by
    rw [List.pairwise_cons] at ha hb
    have hxy : x = y := by
      rcases List.mem_cons.1 ((h x).1 (by simp)) with e | e
      · exact e
      · rcases List.mem_cons.1 ((h y).2 (by simp)) with e2 | e2
        · exact e2.symm
        · have := hb.1 x e
          have := ha.1 y e2
          omega
    subst hxy
    rw [ascI_eq ha.2 hb.2 fun z => ?_]
    constructor
    · intro hz
      have := ha.1 z hz
      rcases List.mem_cons.1 ((h z).1 (by simp [hz])) with e | e
      · omega
      · exact e
    · intro hz
      have := hb.1 z hz
      rcases List.mem_cons.1 ((h z).2 (by simp [hz])) with e | e
      · omega
      · exact e
theorem sort_asc {xs : List Int} (h : xs.Nodup) : (xs.mergeSort leZ).Pairwise (· < ·) := by
  have h1 : (xs.mergeSort leZ).Pairwise (· ≤ ·) := by
    refine (List.pairwise_mergeSort (le := leZ) (fun a b c h1 h2 => by simp [leZ] at *; omega) (fun a b => by simp [leZ]; omega) _).imp fun h => ?_
    simpa [leZ] using h
  have h2 : (xs.mergeSort leZ).Nodup := (List.mergeSort_perm xs leZ).nodup_iff.2 h
  exact (h1.and h2).imp fun ⟨a, b⟩ => by omega
theorem cs_asc {c : List Nat} (h : c.Pairwise (· < ·)) : (cs c).Pairwise (· < ·) := by
  unfold cs
  rw [List.pairwise_map]
  exact h.imp fun h => Int.ofNat_lt.2 h
def atOf (M : List (List UInt8 × Int)) (ss : List (List UInt8)) : List Int := ss.map fun s => (mget M s).getD 0
theorem own_eq {l : List Ind} (ho : Once l) {i : Nat} {ss : List (List UInt8)} (hn : ss.Nodup) (hq : ∀ s, s ∈ ss ↔ Qt (l.getD i i0) s) (hk : ∀ s ∈ ss, ∃ k, k < l.length ∧ (l.getD k i0).name = s) :
    (atOf (idxM l l.length) ss).mergeSort leZ = cs (nxt l i) := by
  have key : ∀ s ∈ ss, ∃ k, k < l.length ∧ (l.getD k i0).name = s ∧ (mget (idxM l l.length) s).getD 0 = (k : Int) := by
    intro s hs
    obtain ⟨k, h1, h2⟩ := hk s hs
    cases hm : mget (idxM l l.length) s with
    | none => exact (idx_none hm k h1 h2).elim
    | some v =>
      obtain ⟨k', g1, rfl, g3⟩ := idx_some hm
      exact ⟨k', g1, g3, rfl⟩
  have hnd : (atOf (idxM l l.length) ss).Nodup := by
    unfold atOf
    rw [List.nodup_iff_pairwise_ne, List.pairwise_map]
    refine (List.Pairwise.and_mem.1 hn).imp ?_
    rintro a b ⟨ha, hb, hab⟩ e
    obtain ⟨k, h1, h2, h3⟩ := key a ha
    obtain ⟨k', g1, g2, g3⟩ := key b hb
    rw [h3, g3] at e
    have : k = k' := by omega
    subst this
    exact hab (h2.symm.trans g2)
  refine ascI_eq (sort_asc hnd) (cs_asc (nxt_asc l i)) fun z => ?_
  rw [List.mem_mergeSort]
  unfold atOf cs
  rw [List.mem_map, List.mem_map]
  constructor
  · rintro ⟨s, hs, rfl⟩
    obtain ⟨k, h1, h2, h3⟩ := key s hs
    exact ⟨k, nxt_mem.2 ⟨h1, by rw [h2]; exact (hq s).1 hs⟩, by rw [h3]; rfl⟩
  · rintro ⟨k, hk', rfl⟩
    obtain ⟨h1, h2⟩ := nxt_mem.1 hk'
    have hs := (hq _).2 h2
    obtain ⟨k', g1, g2, g3⟩ := key _ hs
    refine ⟨_, hs, ?_⟩
    have := ho.uniq g1 h1 g2
    subst this
    exact g3

/-- Graph's results. -/
noncomputable def rG (l : List Ind) : List AR := if errG l = 0 then [.val (.sl 1 encIs [] (gl l)), .val (.int .i64 0)] else [.val .nils, .val (.int .i64 (errG l))]

theorem graph_ok (l : List Ind) (hl1 : l.length ≤ 9223372036854775807) (hx : l.length ≤ 400 → ∀ x ∈ l, OkX x) : APure Try.prog 9 [encXs l] (fun rs => rs = rG l) := by
  refine apure_ofw (C := cx 76 [0, 2, 3, 4, 5, 6, 8, 9, 11, 12, 14, 15, 16, 19, 21, 22, 23, 24, 35, 41, 42, 43, 44, 49, 50, 51, 52, 62]) (cxOk _ _) Try.func9 rfl (by decide) rfl (by exact Nat.le_of_ble_eq_true rfl) (by decide) ?_
  conv => whnf
  refine ⟨fun hc => ?_, fun hc => ?_⟩
  · conv => whnf
    have hc' := of_decide_eq_true hc
    have hE : errG l = 6 := by unfold errG; rw [if_neg (by omega)]
    refine ⟨_, Wk.refl _, ?_⟩
    conv => whnf
    unfold rG
    rw [hE]
    rfl
  have hc' := of_decide_eq_false hc
  have hlen : l.length ≤ 400 := by omega
  have hx := hx hlen
  conv => whnf
  repeat (first | (refine And.intro ⟨by omega, by omega⟩ ?_; conv => whnf) | (refine And.intro (by omega) (And.intro rfl ?_); conv => whnf) | (refine And.intro rfl ?_; conv => whnf) | (refine And.intro (fun _ => ⟨by omega, by omega⟩) ?_; conv => whnf) | (refine And.intro (fun _ => by omega) (And.intro rfl ?_); conv => whnf) | (refine And.intro ⟨(by first | omega | (simp; omega)), (by first | omega | (simp; omega))⟩ ?_; conv => whnf) | (refine Exists.intro _ (And.intro rfl (And.intro (by first | omega | (simp; omega)) (And.intro ⟨rfl, rfl, rfl, rfl, rfl⟩ ?_))); conv => whnf) | (refine And.intro ⟨rfl, rfl⟩ (And.intro (by first | omega | (simp; omega)) ?_); conv => whnf) | (refine Exists.intro _ (And.intro rfl ?_); conv => whnf) | (refine And.intro (fun _ => ?_) (fun h => absurd h (by decide)); conv => whnf) | (refine And.intro (fun h => absurd h (by decide)) (fun _ => ?_); conv => whnf) | (refine .quiet (by kernel_rfl) ?_; conv => whnf))
  refine loop_up (cxOk _ _) l.length (fun k => ∀ i, i < k → ∀ j, j < i → (l.getD i i0).name ≠ (l.getD j i0).name) (fun k => ⟨[(0, encXs l), (4, .map 0), (21, encXs l), (22, .int .i64 l.length), (23, .int .i64 (k : Nat))], [(0, .smap encI 0 (idxM l k))], 1⟩) (by intro j hj; omega) ((wk_of [(0, .id 0)] rfl ⟨.base (.tree _ _ rfl rfl), .base (.map _ _ rfl), .base (.tree _ _ rfl rfl), .base (.tree _ _ rfl rfl), .base (.tree _ _ rfl rfl), trivial⟩ ⟨⟨_, rfl, (by first | exact .smap _ _ _ _ _ rfl rfl | exact .newsmap _ _ _ _ _ _ _ rfl rfl rfl)⟩, trivial⟩)) ?_
  intro k hk hP
  conv => whnf
  refine ⟨fun hd => ?_, fun hd => ?_⟩
  · have hd := of_decide_eq_true hd
    have hlt : k < l.length := by omega
    have e1 : l.getD (k : Int).toNat i0 = l.getD k i0 := by rw [Int.toNat_natCast]
    have hi1 : idxM l (k + 1) = mset (idxM l k) (l.getD k i0).name (k : Int) := rfl
    have hnone := fun {s : List UInt8} (h : mget (idxM l k) s = none) => idx_none h
    have hsome := fun {s : List UInt8} {v : Int} (h : mget (idxM l k) s = some v) => idx_some h
    generalize hM : idxM l k = M at *
    generalize hM' : idxM l (k + 1) = M' at *
    generalize hx0 : l.getD k i0 = x at *
    conv => whnf
    repeat (first | (refine And.intro ⟨by omega, by omega⟩ ?_; conv => whnf) | (refine And.intro (by omega) (And.intro rfl ?_); conv => whnf) | (refine And.intro rfl ?_; conv => whnf) | (refine And.intro (fun _ => ⟨by omega, by omega⟩) ?_; conv => whnf) | (refine And.intro (fun _ => by omega) (And.intro rfl ?_); conv => whnf) | (refine And.intro ⟨(by first | omega | (simp; omega)), (by first | omega | (simp; omega))⟩ ?_; conv => whnf) | (refine Exists.intro _ (And.intro rfl (And.intro (by first | omega | (simp; omega)) (And.intro ⟨rfl, rfl, rfl, rfl, rfl⟩ ?_))); conv => whnf) | (refine And.intro ⟨rfl, rfl⟩ (And.intro (by first | omega | (simp; omega)) ?_); conv => whnf) | (refine Exists.intro _ (And.intro rfl ?_); conv => whnf) | (refine And.intro (fun _ => ?_) (fun h => absurd h (by decide)); conv => whnf) | (refine And.intro (fun h => absurd h (by decide)) (fun _ => ?_); conv => whnf) | (refine .eff (by first | exact cxOk _ _ | exact cxPOk _ _ _) ?_; conv => whnf))
    rw [e1]
    cases hg : mget M x.name with
    | some v =>
      have hO : ¬ Once l := by
        obtain ⟨k', h1, _, h3⟩ := hsome hg
        exact fun h => h k hlt k' h1 (by rw [hx0, h3])
      have hE : errG l = 5 := by unfold errG; rw [if_pos hlen, if_neg hO]
      conv => whnf
      repeat (first | (refine And.intro ⟨by omega, by omega⟩ ?_; conv => whnf) | (refine And.intro (by omega) (And.intro rfl ?_); conv => whnf) | (refine And.intro rfl ?_; conv => whnf) | (refine And.intro (fun _ => ⟨by omega, by omega⟩) ?_; conv => whnf) | (refine And.intro (fun _ => by omega) (And.intro rfl ?_); conv => whnf) | (refine And.intro ⟨(by first | omega | (simp; omega)), (by first | omega | (simp; omega))⟩ ?_; conv => whnf) | (refine Exists.intro _ (And.intro rfl (And.intro (by first | omega | (simp; omega)) (And.intro ⟨rfl, rfl, rfl, rfl, rfl⟩ ?_))); conv => whnf) | (refine And.intro ⟨rfl, rfl⟩ (And.intro (by first | omega | (simp; omega)) ?_); conv => whnf) | (refine Exists.intro _ (And.intro rfl ?_); conv => whnf) | (refine And.intro (fun _ => ?_) (fun h => absurd h (by decide)); conv => whnf) | (refine And.intro (fun h => absurd h (by decide)) (fun _ => ?_); conv => whnf) | (refine .eff (by first | exact cxOk _ _ | exact cxPOk _ _ _) ?_; conv => whnf))
      refine ⟨fun _ => ?_, fun h5 => by cases h5⟩
      conv => whnf
      refine ⟨_, Wk.refl _, ?_⟩
      conv => whnf
      unfold rG
      rw [hE]
      rfl
    | none =>
      conv => whnf
      repeat (first | (refine And.intro ⟨by omega, by omega⟩ ?_; conv => whnf) | (refine And.intro (by omega) (And.intro rfl ?_); conv => whnf) | (refine And.intro rfl ?_; conv => whnf) | (refine And.intro (fun _ => ⟨by omega, by omega⟩) ?_; conv => whnf) | (refine And.intro (fun _ => by omega) (And.intro rfl ?_); conv => whnf) | (refine And.intro ⟨(by first | omega | (simp; omega)), (by first | omega | (simp; omega))⟩ ?_; conv => whnf) | (refine Exists.intro _ (And.intro rfl (And.intro (by first | omega | (simp; omega)) (And.intro ⟨rfl, rfl, rfl, rfl, rfl⟩ ?_))); conv => whnf) | (refine And.intro ⟨rfl, rfl⟩ (And.intro (by first | omega | (simp; omega)) ?_); conv => whnf) | (refine Exists.intro _ (And.intro rfl ?_); conv => whnf) | (refine And.intro (fun _ => ?_) (fun h => absurd h (by decide)); conv => whnf) | (refine And.intro (fun h => absurd h (by decide)) (fun _ => ?_); conv => whnf) | (refine .eff (by first | exact cxOk _ _ | exact cxPOk _ _ _) ?_; conv => whnf))
      refine up hlt (fun i hi j hj => ?_) ((wk_of [(0, .id 0)] rfl ⟨.base (.tree _ _ rfl rfl), .base (.map _ _ rfl), .base (.tree _ _ rfl rfl), .base (.tree _ _ rfl rfl), .base (.tree _ _ rfl rfl), trivial⟩ ⟨⟨_, rfl, (by first | exact .smap _ _ _ _ _ rfl (hi1.symm.trans hM'.symm) | exact .newsmap _ _ _ _ _ _ _ rfl rfl (hi1.symm.trans hM'.symm))⟩, trivial⟩))
      by_cases e : i = k
      · subst e; rw [hx0]; exact (hnone hg j hj).symm
      · exact hP i (by omega) j hj
  have hd := of_decide_eq_false hd
  obtain rfl : k = l.length := by omega
  have hO : Once l := hP
  have hnone := fun {s : List UInt8} (h : mget (idxM l l.length) s = none) => idx_none h
  have hown := fun (i : Nat) (ss : List (List UInt8)) hn hq hk => own_eq hO (i := i) (ss := ss) hn hq hk
  have hNs := glN_succ l
  have hsome := fun {s : List UInt8} {v : Int} (h : mget (idxM l l.length) s = some v) => idx_some h
  generalize hM : idxM l l.length = M at *
  conv => whnf
  repeat (first | (refine And.intro ⟨by omega, by omega⟩ ?_; conv => whnf) | (refine And.intro (by omega) (And.intro rfl ?_); conv => whnf) | (refine And.intro rfl ?_; conv => whnf) | (refine And.intro (fun _ => ⟨by omega, by omega⟩) ?_; conv => whnf) | (refine And.intro (fun _ => by omega) (And.intro rfl ?_); conv => whnf) | (refine And.intro ⟨(by first | omega | (simp; omega)), (by first | omega | (simp; omega))⟩ ?_; conv => whnf) | (refine Exists.intro _ (And.intro rfl (And.intro (by first | omega | (simp; omega)) (And.intro ⟨rfl, rfl, rfl, rfl, rfl⟩ ?_))); conv => whnf) | (refine And.intro ⟨rfl, rfl⟩ (And.intro (by first | omega | (simp; omega)) ?_); conv => whnf) | (refine Exists.intro _ (And.intro rfl ?_); conv => whnf) | (refine And.intro (fun _ => ?_) (fun h => absurd h (by decide)); conv => whnf) | (refine And.intro (fun h => absurd h (by decide)) (fun _ => ?_); conv => whnf) | (refine .quiet (by kernel_rfl) ?_; conv => whnf))
  refine loop_up (cxOk _ _) l.length (fun i => ∀ j, j < i → ∀ s, Qt (l.getD j i0) s → ∃ k, k < l.length ∧ (l.getD k i0).name = s) (fun i => ⟨[(0, encXs l), (4, .map 0), (9, .own 1), (41, encXs l), (42, .int .i64 l.length), (43, .int .i64 (i : Nat))], [(0, .smap encI 0 M), (1, .row 24 1 encIs [] (glN l i))], 2⟩) (by intro j hj; omega) ((wk_of [(0, .id 0), (1, .nil)] rfl ⟨.base (.tree _ _ rfl rfl), .base (.map _ _ rfl), (by first | exact .base (.own _ _ rfl) | exact .base (.nilown _ rfl) | exact .base (.trunc _ _ _ rfl)), .base (.tree _ _ rfl rfl), .base (.tree _ _ rfl rfl), .base (.tree _ _ rfl rfl), trivial⟩ ⟨⟨_, rfl, (by first | exact .smap _ _ _ _ _ rfl rfl | exact .newsmap _ _ _ _ _ _ _ rfl rfl rfl)⟩, ⟨_, rfl, (by first | exact .row _ _ _ _ _ _ _ rfl rfl | exact .lstrow _ _ _ _ _ _ _ rfl rfl | exact .nilrow _ _ _ _ _ rfl | exact .truncrow _ _ _ _ _ _ _ _ rfl (by omega) rfl)⟩, trivial⟩)) ?_
  intro i hi hP2
  conv => whnf
  refine ⟨fun hd2 => ?_, fun hd2 => ?_⟩
  · have hd2 := of_decide_eq_true hd2
    have hlt : i < l.length := by omega
    have e1 : l.getD (i : Int).toNat i0 = l.getD i i0 := by rw [Int.toNat_natCast]
    have hNi := hNs i
    have hown := hown i
    have hok : OkX (l.getD i i0) := hx _ (getD_mem hlt)
    have hnl : (glN l i).length = i := by unfold glN; simp
    generalize hx0 : l.getD i i0 = x at *
    generalize hN : glN l i = N at *
    generalize hN' : glN l (i + 1) = N' at *
    conv => whnf
    repeat (first | (refine And.intro ⟨by omega, by omega⟩ ?_; conv => whnf) | (refine And.intro (by omega) (And.intro rfl ?_); conv => whnf) | (refine And.intro rfl ?_; conv => whnf) | (refine And.intro (fun _ => ⟨by omega, by omega⟩) ?_; conv => whnf) | (refine And.intro (fun _ => by omega) (And.intro rfl ?_); conv => whnf) | (refine And.intro ⟨(by first | omega | (simp; omega)), (by first | omega | (simp; omega))⟩ ?_; conv => whnf) | (refine Exists.intro _ (And.intro rfl (And.intro (by first | omega | (simp; omega)) (And.intro ⟨rfl, rfl, rfl, rfl, rfl⟩ ?_))); conv => whnf) | (refine And.intro ⟨rfl, rfl⟩ (And.intro (by first | omega | (simp; omega)) ?_); conv => whnf) | (refine Exists.intro _ (And.intro rfl ?_); conv => whnf) | (refine And.intro (fun _ => ?_) (fun h => absurd h (by decide)); conv => whnf) | (refine And.intro (fun h => absurd h (by decide)) (fun _ => ?_); conv => whnf) | (refine .eff (by first | exact cxOk _ _ | exact cxPOk _ _ _) ?_; conv => whnf))
    rw [e1]
    conv => whnf
    repeat (first | (refine And.intro ⟨by omega, by omega⟩ ?_; conv => whnf) | (refine And.intro (by omega) (And.intro rfl ?_); conv => whnf) | (refine And.intro rfl ?_; conv => whnf) | (refine And.intro (fun _ => ⟨by omega, by omega⟩) ?_; conv => whnf) | (refine And.intro (fun _ => by omega) (And.intro rfl ?_); conv => whnf) | (refine And.intro ⟨(by first | omega | (simp; omega)), (by first | omega | (simp; omega))⟩ ?_; conv => whnf) | (refine Exists.intro _ (And.intro rfl (And.intro (by first | omega | (simp; omega)) (And.intro ⟨rfl, rfl, rfl, rfl, rfl⟩ ?_))); conv => whnf) | (refine And.intro ⟨rfl, rfl⟩ (And.intro (by first | omega | (simp; omega)) ?_); conv => whnf) | (refine Exists.intro _ (And.intro rfl ?_); conv => whnf) | (refine And.intro (fun _ => ?_) (fun h => absurd h (by decide)); conv => whnf) | (refine And.intro (fun h => absurd h (by decide)) (fun _ => ?_); conv => whnf) | (refine .eff (by first | exact cxOk _ _ | exact cxPOk _ _ _) ?_; conv => whnf))
    refine .any _ _ _ ⟨rfl, rfl⟩ (quoted_ok x hok) (by repeat (first | exact .nil | (apply BorL.cons; first | exact lS rfl | exact lR rfl | exact lM rfl rfl | exact lL rfl | exact lX rfl | exact lN | exact lNl | exact lSm rfl | exact lIm rfl | exact lP rfl | exact lQ rfl | exact lB rfl rfl rfl))) (by first | exact .inl rfl | exact .inr (by repeat (first | exact flats_nil | refine flats_cons (by first | exact flat_val _ rfl | exact flat_row (fun _ => rfl) | exact flat_lst (fun _ => rfl)) ?_))) ?_
    rintro rs ⟨ss, hsn, hsq, rfl⟩
    have hsl := qt_len hok hsn hsq
    have hown := hown ss hsn hsq
    have hrs : ∀ m, m < ss.length → atOf M (ss.take (m + 1)) = atOf M (ss.take m) ++ [(mget M (ss.getD m [])).getD 0] := fun m hm => by
      unfold atOf
      rw [take_getD (d := []) hm, List.map_append]; rfl
    have hrl : ∀ m, (atOf M (ss.take m)).length ≤ m := fun m => by unfold atOf; rw [List.length_map, List.length_take]; omega
    have hr0 : atOf M (ss.take 0) = [] := rfl
    have hrn : atOf M (ss.take ss.length) = atOf M ss := by rw [List.take_length]
    generalize hWr : (fun m => atOf M (ss.take m)) = Wr at *
    have hWr : ∀ m, atOf M (ss.take m) = Wr m := fun m => by rw [← hWr]
    simp only [hWr] at hrs hrl hr0 hrn
    conv => whnf
    repeat (first | (refine And.intro ⟨by omega, by omega⟩ ?_; conv => whnf) | (refine And.intro (by omega) (And.intro rfl ?_); conv => whnf) | (refine And.intro rfl ?_; conv => whnf) | (refine And.intro (fun _ => ⟨by omega, by omega⟩) ?_; conv => whnf) | (refine And.intro (fun _ => by omega) (And.intro rfl ?_); conv => whnf) | (refine And.intro ⟨(by first | omega | (simp; omega)), (by first | omega | (simp; omega))⟩ ?_; conv => whnf) | (refine Exists.intro _ (And.intro rfl (And.intro (by first | omega | (simp; omega)) (And.intro ⟨rfl, rfl, rfl, rfl, rfl⟩ ?_))); conv => whnf) | (refine And.intro ⟨rfl, rfl⟩ (And.intro (by first | omega | (simp; omega)) ?_); conv => whnf) | (refine Exists.intro _ (And.intro rfl ?_); conv => whnf) | (refine And.intro (fun _ => ?_) (fun h => absurd h (by decide)); conv => whnf) | (refine And.intro (fun h => absurd h (by decide)) (fun _ => ?_); conv => whnf) | (refine .quiet (by kernel_rfl) ?_; conv => whnf))
    refine loop_up (cxOk _ _) ss.length (fun m => ∀ n, n < m → ∃ k, k < l.length ∧ (l.getD k i0).name = ss.getD n []) (fun m => ⟨[(0, encXs l), (4, .map 0), (9, .own 1), (12, .own 3), (41, encXs l), (42, .int .i64 l.length), (43, .int .i64 (i : Nat)), (49, .own 4), (50, .int .i64 ss.length), (51, .int .i64 (m : Nat))], [(0, .smap encI 0 M), (1, .row 24 1 encIs [] N), (3, .row 3 1 encI 0 (Wr m)), (4, .row 9 1 encS [] ss)], 5⟩) (by intro j hj; omega) (by rw [hr0]; exact (wk_of [(0, .id 0), (1, .id 1), (3, .id 3), (4, .id 4)] rfl ⟨.base (.tree _ _ rfl rfl), .base (.map _ _ rfl), (by first | exact .base (.own _ _ rfl) | exact .base (.nilown _ rfl) | exact .base (.trunc _ _ _ rfl)), (by first | exact .base (.own _ _ rfl) | exact .base (.nilown _ rfl) | exact .base (.trunc _ _ _ rfl)), .base (.tree _ _ rfl rfl), .base (.tree _ _ rfl rfl), .base (.tree _ _ rfl rfl), (by first | exact .base (.own _ _ rfl) | exact .base (.nilown _ rfl) | exact .base (.trunc _ _ _ rfl)), .base (.tree _ _ rfl rfl), .base (.tree _ _ rfl rfl), trivial⟩ ⟨⟨_, rfl, (by first | exact .smap _ _ _ _ _ rfl rfl | exact .newsmap _ _ _ _ _ _ _ rfl rfl rfl)⟩, ⟨_, rfl, (by first | exact .row _ _ _ _ _ _ _ rfl rfl | exact .lstrow _ _ _ _ _ _ _ rfl rfl | exact .nilrow _ _ _ _ _ rfl | exact .truncrow _ _ _ _ _ _ _ _ rfl (by omega) rfl)⟩, ⟨_, rfl, (by first | exact .row _ _ _ _ _ _ _ rfl rfl | exact .lstrow _ _ _ _ _ _ _ rfl rfl | exact .nilrow _ _ _ _ _ rfl | exact .truncrow _ _ _ _ _ _ _ _ rfl (by omega) rfl)⟩, ⟨_, rfl, (by first | exact .row _ _ _ _ _ _ _ rfl rfl | exact .lstrow _ _ _ _ _ _ _ rfl rfl | exact .nilrow _ _ _ _ _ rfl | exact .truncrow _ _ _ _ _ _ _ _ rfl (by omega) rfl)⟩, trivial⟩)) ?_
    intro m hm hP3
    conv => whnf
    refine ⟨fun hd3 => ?_, fun hd3 => ?_⟩
    · have hd3 := of_decide_eq_true hd3
      have hlm : m < ss.length := by omega
      have e3 : ss.getD (m : Int).toNat [] = ss.getD m [] := by rw [Int.toNat_natCast]
      have hrm := hrs m hlm
      have hlw := hrl m
      have hmem : ss.getD m [] ∈ ss := getD_mem hlm
      generalize hs : ss.getD m [] = s at *
      conv => whnf
      repeat (first | (refine And.intro ⟨by omega, by omega⟩ ?_; conv => whnf) | (refine And.intro (by omega) (And.intro rfl ?_); conv => whnf) | (refine And.intro rfl ?_; conv => whnf) | (refine And.intro (fun _ => ⟨by omega, by omega⟩) ?_; conv => whnf) | (refine And.intro (fun _ => by omega) (And.intro rfl ?_); conv => whnf) | (refine And.intro ⟨(by first | omega | (simp; omega)), (by first | omega | (simp; omega))⟩ ?_; conv => whnf) | (refine Exists.intro _ (And.intro rfl (And.intro (by first | omega | (simp; omega)) (And.intro ⟨rfl, rfl, rfl, rfl, rfl⟩ ?_))); conv => whnf) | (refine And.intro ⟨rfl, rfl⟩ (And.intro (by first | omega | (simp; omega)) ?_); conv => whnf) | (refine Exists.intro _ (And.intro rfl ?_); conv => whnf) | (refine And.intro (fun _ => ?_) (fun h => absurd h (by decide)); conv => whnf) | (refine And.intro (fun h => absurd h (by decide)) (fun _ => ?_); conv => whnf) | (refine .quiet (by kernel_rfl) ?_; conv => whnf))
      rw [e3]
      cases hg : mget M s with
      | none =>
        have hK : ¬ Known l := fun h => by
          obtain ⟨k, h1, h2⟩ := h i hlt s (by rw [hx0]; exact (hsq s).1 hmem)
          exact hnone hg k h1 h2
        have hE : errG l = 11 := by unfold errG; rw [if_pos hlen, if_pos hO, if_neg hK]
        conv => whnf
        repeat (first | (refine And.intro ⟨by omega, by omega⟩ ?_; conv => whnf) | (refine And.intro (by omega) (And.intro rfl ?_); conv => whnf) | (refine And.intro rfl ?_; conv => whnf) | (refine And.intro (fun _ => ⟨by omega, by omega⟩) ?_; conv => whnf) | (refine And.intro (fun _ => by omega) (And.intro rfl ?_); conv => whnf) | (refine And.intro ⟨(by first | omega | (simp; omega)), (by first | omega | (simp; omega))⟩ ?_; conv => whnf) | (refine Exists.intro _ (And.intro rfl (And.intro (by first | omega | (simp; omega)) (And.intro ⟨rfl, rfl, rfl, rfl, rfl⟩ ?_))); conv => whnf) | (refine And.intro ⟨rfl, rfl⟩ (And.intro (by first | omega | (simp; omega)) ?_); conv => whnf) | (refine Exists.intro _ (And.intro rfl ?_); conv => whnf) | (refine And.intro (fun _ => ?_) (fun h => absurd h (by decide)); conv => whnf) | (refine And.intro (fun h => absurd h (by decide)) (fun _ => ?_); conv => whnf) | (refine .quiet (by kernel_rfl) ?_; conv => whnf))
        refine ⟨_, Wk.refl _, ?_⟩
        conv => whnf
        unfold rG
        rw [hE]
        rfl
      | some v =>
        rw [hg] at hrm
        conv => whnf
        repeat (first | (refine And.intro ⟨by omega, by omega⟩ ?_; conv => whnf) | (refine And.intro (by omega) (And.intro rfl ?_); conv => whnf) | (refine And.intro rfl ?_; conv => whnf) | (refine And.intro (fun _ => ⟨by omega, by omega⟩) ?_; conv => whnf) | (refine And.intro (fun _ => by omega) (And.intro rfl ?_); conv => whnf) | (refine And.intro ⟨(by first | omega | (simp; omega)), (by first | omega | (simp; omega))⟩ ?_; conv => whnf) | (refine Exists.intro _ (And.intro rfl (And.intro (by first | omega | (simp; omega)) (And.intro ⟨rfl, rfl, rfl, rfl, rfl⟩ ?_))); conv => whnf) | (refine And.intro ⟨rfl, rfl⟩ (And.intro (by first | omega | (simp; omega)) ?_); conv => whnf) | (refine Exists.intro _ (And.intro rfl ?_); conv => whnf) | (refine And.intro (fun _ => ?_) (fun h => absurd h (by decide)); conv => whnf) | (refine And.intro (fun h => absurd h (by decide)) (fun _ => ?_); conv => whnf) | (refine .quiet (by kernel_rfl) ?_; conv => whnf))
        refine ⟨fun he5 => ?_, fun he5 => ?_⟩
        · cases he5
        conv => whnf
        repeat (first | (refine And.intro ⟨by omega, by omega⟩ ?_; conv => whnf) | (refine And.intro (by omega) (And.intro rfl ?_); conv => whnf) | (refine And.intro rfl ?_; conv => whnf) | (refine And.intro (fun _ => ⟨by omega, by omega⟩) ?_; conv => whnf) | (refine And.intro (fun _ => by omega) (And.intro rfl ?_); conv => whnf) | (refine And.intro ⟨(by first | omega | (simp; omega)), (by first | omega | (simp; omega))⟩ ?_; conv => whnf) | (refine Exists.intro _ (And.intro rfl (And.intro (by first | omega | (simp; omega)) (And.intro ⟨rfl, rfl, rfl, rfl, rfl⟩ ?_))); conv => whnf) | (refine And.intro ⟨rfl, rfl⟩ (And.intro (by first | omega | (simp; omega)) ?_); conv => whnf) | (refine Exists.intro _ (And.intro rfl ?_); conv => whnf) | (refine And.intro (fun _ => ?_) (fun h => absurd h (by decide)); conv => whnf) | (refine And.intro (fun h => absurd h (by decide)) (fun _ => ?_); conv => whnf) | (refine .quiet (by kernel_rfl) ?_; conv => whnf))
        refine And.intro ⟨rfl, rfl⟩ (And.intro (show ((Wr m).length + 1) * 8 ≤ 140737488355328 by omega) ?_)
        conv => whnf
        refine ⟨v, rfl, ?_⟩
        conv => whnf
        repeat (first | (refine And.intro ⟨by omega, by omega⟩ ?_; conv => whnf) | (refine And.intro (by omega) (And.intro rfl ?_); conv => whnf) | (refine And.intro rfl ?_; conv => whnf) | (refine And.intro (fun _ => ⟨by omega, by omega⟩) ?_; conv => whnf) | (refine And.intro (fun _ => by omega) (And.intro rfl ?_); conv => whnf) | (refine And.intro ⟨(by first | omega | (simp; omega)), (by first | omega | (simp; omega))⟩ ?_; conv => whnf) | (refine Exists.intro _ (And.intro rfl (And.intro (by first | omega | (simp; omega)) (And.intro ⟨rfl, rfl, rfl, rfl, rfl⟩ ?_))); conv => whnf) | (refine And.intro ⟨rfl, rfl⟩ (And.intro (by first | omega | (simp; omega)) ?_); conv => whnf) | (refine Exists.intro _ (And.intro rfl ?_); conv => whnf) | (refine And.intro (fun _ => ?_) (fun h => absurd h (by decide)); conv => whnf) | (refine And.intro (fun h => absurd h (by decide)) (fun _ => ?_); conv => whnf) | (refine .quiet (by kernel_rfl) ?_; conv => whnf))
        refine up hlm (fun n hn => ?_) ((wk_of [(0, .id 0), (1, .id 1), (3, .id 6), (4, .id 4)] rfl ⟨.base (.tree _ _ rfl rfl), .base (.map _ _ rfl), (by first | exact .base (.own _ _ rfl) | exact .base (.nilown _ rfl) | exact .base (.trunc _ _ _ rfl)), (by first | exact .base (.own _ _ rfl) | exact .base (.nilown _ rfl) | exact .base (.trunc _ _ _ rfl)), .base (.tree _ _ rfl rfl), .base (.tree _ _ rfl rfl), .base (.tree _ _ rfl rfl), (by first | exact .base (.own _ _ rfl) | exact .base (.nilown _ rfl) | exact .base (.trunc _ _ _ rfl)), .base (.tree _ _ rfl rfl), .base (.tree _ _ rfl rfl), trivial⟩ ⟨⟨_, rfl, (by first | exact .smap _ _ _ _ _ rfl rfl | exact .newsmap _ _ _ _ _ _ _ rfl rfl rfl)⟩, ⟨_, rfl, (by first | exact .row _ _ _ _ _ _ _ rfl rfl | exact .lstrow _ _ _ _ _ _ _ rfl rfl | exact .nilrow _ _ _ _ _ rfl | exact .truncrow _ _ _ _ _ _ _ _ rfl (by omega) rfl)⟩, ⟨_, rfl, (by first | exact .row _ _ _ _ _ _ _ rfl (hrm.symm) | exact .lstrow _ _ _ _ _ _ _ rfl (hrm.symm) | exact .nilrow _ _ _ _ _ (hrm.symm) | exact .truncrow _ _ _ _ _ _ _ _ rfl (by omega) (hrm.symm))⟩, ⟨_, rfl, (by first | exact .row _ _ _ _ _ _ _ rfl rfl | exact .lstrow _ _ _ _ _ _ _ rfl rfl | exact .nilrow _ _ _ _ _ rfl | exact .truncrow _ _ _ _ _ _ _ _ rfl (by omega) rfl)⟩, trivial⟩))
        by_cases e : n = m
        · subst e
          obtain ⟨k, h1, _, h3⟩ := hsome hg
          exact ⟨k, h1, by rw [h3, hs]⟩
        · exact hP3 n (by omega)
    · have hd3 := of_decide_eq_false hd3
      obtain rfl : m = ss.length := by omega
      have hlw := hrl ss.length
      have hall : ∀ s ∈ ss, ∃ k, k < l.length ∧ (l.getD k i0).name = s := fun s hs => by
        obtain ⟨n, hn, rfl⟩ := mem_getD (d := []) hs
        exact hP3 n hn
      have hown := hown hall
      rw [← hrn] at hown
      conv => whnf
      refine .raw _ _ rfl (fun h => by cases h) (sort_c rfl (by omega)) ?_
      rintro r rfl
      refine ⟨Nat.le_refl _, ?_⟩
      conv => whnf
      repeat (first | (refine And.intro ⟨by omega, by omega⟩ ?_; conv => whnf) | (refine And.intro (by omega) (And.intro rfl ?_); conv => whnf) | (refine And.intro rfl ?_; conv => whnf) | (refine And.intro (fun _ => ⟨by omega, by omega⟩) ?_; conv => whnf) | (refine And.intro (fun _ => by omega) (And.intro rfl ?_); conv => whnf) | (refine And.intro ⟨(by first | omega | (simp; omega)), (by first | omega | (simp; omega))⟩ ?_; conv => whnf) | (refine Exists.intro _ (And.intro rfl (And.intro (by first | omega | (simp; omega)) (And.intro ⟨rfl, rfl, rfl, rfl, rfl⟩ ?_))); conv => whnf) | (refine And.intro ⟨rfl, rfl⟩ (And.intro (by first | omega | (simp; omega)) ?_); conv => whnf) | (refine Exists.intro _ (And.intro rfl ?_); conv => whnf) | (refine And.intro (fun _ => ?_) (fun h => absurd h (by decide)); conv => whnf) | (refine And.intro (fun h => absurd h (by decide)) (fun _ => ?_); conv => whnf) | (refine .eff (by first | exact cxOk _ _ | exact cxPOk _ _ _) ?_; conv => whnf))
      refine ⟨⟨rfl, rfl⟩, (show (N.length + 1) * 24 ≤ 140737488355328 by omega), ?_⟩
      conv => whnf
      refine ⟨cs (nxt l i), (by
        show AV.sl 1 encI 0 _ = AV.sl 1 encI 0 _
        rw [hown]), ?_⟩
      conv => whnf
      repeat (first | (refine And.intro ⟨by omega, by omega⟩ ?_; conv => whnf) | (refine And.intro (by omega) (And.intro rfl ?_); conv => whnf) | (refine And.intro rfl ?_; conv => whnf) | (refine And.intro (fun _ => ⟨by omega, by omega⟩) ?_; conv => whnf) | (refine And.intro (fun _ => by omega) (And.intro rfl ?_); conv => whnf) | (refine And.intro ⟨(by first | omega | (simp; omega)), (by first | omega | (simp; omega))⟩ ?_; conv => whnf) | (refine Exists.intro _ (And.intro rfl (And.intro (by first | omega | (simp; omega)) (And.intro ⟨rfl, rfl, rfl, rfl, rfl⟩ ?_))); conv => whnf) | (refine And.intro ⟨rfl, rfl⟩ (And.intro (by first | omega | (simp; omega)) ?_); conv => whnf) | (refine Exists.intro _ (And.intro rfl ?_); conv => whnf) | (refine And.intro (fun _ => ?_) (fun h => absurd h (by decide)); conv => whnf) | (refine And.intro (fun h => absurd h (by decide)) (fun _ => ?_); conv => whnf) | (refine .quiet (by kernel_rfl) ?_; conv => whnf))
      refine up hlt (fun j hj => ?_) ((wk_of [(0, .id 0), (1, .id 6)] rfl ⟨.base (.tree _ _ rfl rfl), .base (.map _ _ rfl), (by first | exact .base (.own _ _ rfl) | exact .base (.nilown _ rfl) | exact .base (.trunc _ _ _ rfl)), .base (.tree _ _ rfl rfl), .base (.tree _ _ rfl rfl), .base (.tree _ _ rfl rfl), trivial⟩ ⟨⟨_, rfl, (by first | exact .smap _ _ _ _ _ rfl rfl | exact .newsmap _ _ _ _ _ _ _ rfl rfl rfl)⟩, ⟨_, rfl, (by first | exact .row _ _ _ _ _ _ _ rfl (hNi.symm.trans hN'.symm) | exact .lstrow _ _ _ _ _ _ _ rfl (hNi.symm.trans hN'.symm) | exact .nilrow _ _ _ _ _ (hNi.symm.trans hN'.symm) | exact .truncrow _ _ _ _ _ _ _ _ rfl (by omega) (hNi.symm.trans hN'.symm))⟩, trivial⟩))
      by_cases e : j = i
      · subst e; rw [hx0]; exact fun s hs => hall s ((hsq s).2 hs)
      · exact hP2 j (by omega)
  · have hd2 := of_decide_eq_false hd2
    obtain rfl : i = l.length := by omega
    have hK : Known l := hP2
    have hE : errG l = 0 := by unfold errG; rw [if_pos hlen, if_pos hO, if_pos hK]
    conv => whnf
    refine ⟨_, wk_frz [1], ?_⟩
    conv => whnf
    unfold rG
    rw [hE]
    rfl
end Go.Proofs.Ytmcgfkkagijcmaa

namespace Go.Proofs.Ytmcgfkkagijcmaa
open Go.Own
set_option maxHeartbeats 4000000
set_option maxRecDepth 100000

/-- A list of lists of places. -/
def InR (g : List (List Int)) : Prop := ∀ r ∈ g, r.length ≤ 1000000 ∧ ∀ v ∈ r, 0 ≤ v ∧ v < (g.length : Int)
/-- An issue quotes another one. -/
def Stp (g : List (List Int)) (i k : Nat) : Prop := (k : Int) ∈ g.getD i []
inductive Lds (g : List (List Int)) (i : Nat) : Nat → Prop
  | one {k : Nat} (h : Stp g i k) : Lds g i k
  | more {j k : Nat} (h : Lds g i j) (s : Stp g j k) : Lds g i k
open Classical in
noncomputable def ldB (g : List (List Int)) (i k : Nat) : Bool := decide (Lds g i k)
theorem ldB_iff {g : List (List Int)} {i k : Nat} : ldB g i k = true ↔ Lds g i k := by simp only [ldB, decide_eq_true_eq]
noncomputable def ldL (g : List (List Int)) (i : Nat) : List Bool := (List.range g.length).map (ldB g i)

/-- How many are not yet met. -/
def unmet (O : List Bool) : Nat := (O.filter fun b => !b).length
theorem unmet_set : ∀ {O : List Bool} {k : Nat}, k < O.length → O.getD k false = false → unmet (O.set k true) + 1 = unmet O
  | [], k, h, _ => by simp at h
  | b :: O, 0, _, h => by
    have : b = false := by simpa using h
    subst this
    simp [unmet]
  | b :: O, k + 1, h, h0 => by
    have ih := unmet_set (O := O) (k := k) (by simpa using h) (by simpa using h0)
    unfold unmet at ih ⊢
    cases b <;> simp at ih ⊢ <;> omega
theorem getD_setB {O : List Bool} {k j : Nat} (hk : k < O.length) : (O.set k true).getD j false = if j = k then true else O.getD j false := by
  rw [List.getD_eq_getElem?_getD, List.getElem?_set]
  by_cases e : k = j
  · subst e
    rw [if_pos rfl, if_pos hk, if_pos rfl]
    rfl
  · rw [if_neg e, if_neg (fun h => e h.symm), List.getD_eq_getElem?_getD]

/-- The search so far. -/
structure Srch (g : List (List Int)) (i : Nat) (O : List Bool) (T : List Int) : Prop where
  len : O.length = g.length
  sound : ∀ k, O.getD k false = true → Lds g i k
  todo : ∀ v ∈ T, ∃ m : Nat, v = (m : Int) ∧ m < g.length ∧ (m = i ∨ Lds g i m)
/-- All that is met, but what is still to do, has been left. -/
def Done (g : List (List Int)) (O : List Bool) (T : List Int) (m : Nat) : Prop := (m : Int) ∈ T ∨ ∀ k, Stp g m k → O.getD k false = true
def Clsd (g : List (List Int)) (i : Nat) (O : List Bool) (T : List Int) (but : Nat → Prop) : Prop := ∀ m, (m = i ∨ O.getD m false = true) → but m ∨ Done g O T m
theorem Done.set {g : List (List Int)} {O : List Bool} {T : List Int} {m k : Nat} (hk : k < O.length) (v : Int) (h : Done g O T m) : Done g (O.set k true) (T ++ [v]) m := by
  rcases h with h | h
  · exact .inl (List.mem_append_left _ h)
  · refine .inr fun j hj => ?_
    rw [getD_setB hk]
    split
    · rfl
    · exact h j hj
/-- One more is met. -/
theorem Srch.meet {g : List (List Int)} {i m k : Nat} {O : List Bool} {T : List Int} (h : Srch g i O T) (hm : m = i ∨ Lds g i m) (hs : Stp g m k) (hk : k < g.length) : Srch g i (O.set k true) (T ++ [(k : Int)]) := by
  have hl : Lds g i k := by
    rcases hm with rfl | hm
    · exact .one hs
    · exact .more hm hs
  refine ⟨by rw [List.length_set, h.len], fun j hj => ?_, fun v hv => ?_⟩
  · rw [getD_setB (by rw [h.len]; exact hk)] at hj
    split at hj
    · rename_i e; subst e; exact hl
    · exact h.sound j hj
  · rcases List.mem_append.1 hv with h1 | h1
    · exact h.todo v h1
    · rw [List.mem_singleton] at h1
      exact ⟨k, h1, hk, .inr hl⟩
theorem Clsd.meet {g : List (List Int)} {i k : Nat} {O : List Bool} {T : List Int} {but : Nat → Prop} (h : Clsd g i O T but) (hk : k < O.length) : Clsd g i (O.set k true) (T ++ [(k : Int)]) but := by
  intro m hm
  by_cases e : m = k
  · subst e; exact .inr (.inl (List.mem_append_right _ (by simp)))
  · have hm' : m = i ∨ O.getD m false = true := by
      rcases hm with h1 | h1
      · exact .inl h1
      · rw [getD_setB hk, if_neg e] at h1
        exact .inr h1
    rcases h m hm' with h1 | h1
    · exact .inl h1
    · exact .inr (h1.set hk _)
/-- At the end. -/
theorem srch_end {g : List (List Int)} {i : Nat} {O : List Bool} (h : Srch g i O []) (hc : Clsd g i O [] (fun _ => False)) : O = ldL g i := by
  have hcl : ∀ m, (m = i ∨ O.getD m false = true) → ∀ k, Stp g m k → O.getD k false = true := fun m hm => by
    rcases hc m hm with h1 | h1 | h1
    · exact h1.elim
    · cases h1
    · exact h1
  have hall : ∀ k, Lds g i k → O.getD k false = true := by
    intro k hk
    induction hk with
    | one hs => exact hcl i (.inl rfl) _ hs
    | more _ hs ih => exact hcl _ (.inr ih) _ hs
  refine List.ext_getElem (by unfold ldL; rw [List.length_map, List.length_range, h.len]) fun k h1 h2 => ?_
  have e1 : O.getD k false = O[k] := ngetD h1
  have e2 : (ldL g i)[k] = ldB g i k := by simp [ldL]
  rw [e2, ← e1]
  cases hb : ldB g i k with
  | true => exact hall k (ldB_iff.1 hb)
  | false =>
    cases ho : O.getD k false with
    | false => rfl
    | true => rw [ldB_iff.2 (h.sound k ho)] at hb; cases hb

theorem reach_ok (g : List (List Int)) (hg : InR g) (hl : g.length ≤ 1000000) (i : Nat) (hi : i < g.length) : APure Try.prog 25 [.sl 1 encIs [] g, .int .i64 (i : Nat)] (fun rs => rs = [.new (.row 4 1 encB false (ldL g i))]) := by
  refine apure_of (C := cx 52 [0, 1, 4, 5, 6, 7, 9, 17, 32, 33, 34, 35, 42]) (cxOk _ _) Try.func25 rfl (by decide) rfl (by exact Nat.le_of_ble_eq_true rfl) (by decide) ?_
  conv => whnf
  repeat (first | (refine And.intro ⟨by omega, by omega⟩ ?_; conv => whnf) | (refine And.intro (by omega) (And.intro rfl ?_); conv => whnf) | (refine And.intro rfl ?_; conv => whnf) | (refine And.intro (fun _ => ⟨by omega, by omega⟩) ?_; conv => whnf) | (refine And.intro (fun _ => by omega) (And.intro rfl ?_); conv => whnf) | (refine And.intro ⟨(by first | omega | (simp; omega)), (by first | omega | (simp; omega))⟩ ?_; conv => whnf) | (refine Exists.intro _ (And.intro rfl (And.intro (by first | omega | (simp; omega)) (And.intro ⟨rfl, rfl, rfl, rfl, rfl⟩ ?_))); conv => whnf) | (refine And.intro ⟨rfl, rfl⟩ (And.intro (by first | omega | (simp; omega)) ?_); conv => whnf) | (refine Exists.intro _ (And.intro rfl ?_); conv => whnf) | (refine And.intro (fun _ => ?_) (fun h => absurd h (by decide)); conv => whnf) | (refine And.intro (fun h => absurd h (by decide)) (fun _ => ?_); conv => whnf) | (refine .quiet (by kernel_rfl) ?_; conv => whnf))
  refine loop_inv (cxOk _ _) (σ := List Bool × List Int) (fun s => Srch g i s.1 s.2 ∧ Clsd g i s.1 s.2 (fun _ => False) ∧ 2 * unmet s.1 + s.2.length ≤ 2 * g.length + 1) (fun s => 2 * unmet s.1 + s.2.length) (fun s => ⟨[(0, .sl 1 encIs [] g), (5, .own 0), (6, .own 1)], [(0, .row 4 1 encB false (s.1)), (1, .row 3 1 encI 0 (s.2))], 2⟩) (List.replicate g.length false, [(i : Int)]) ⟨⟨List.length_replicate, fun k hk => ?_, fun v hv => ⟨i, by simpa using hv, hi, .inl rfl⟩⟩, fun m hm => .inr (.inl ?_), by simp [unmet]⟩ ((wk_of [(0, .id 0), (1, .id 1)] rfl ⟨.base (.tree _ _ rfl rfl), (by first | exact .base (.own _ _ rfl) | exact .base (.nilown _ rfl) | exact .base (.trunc _ _ _ rfl)), (by first | exact .base (.own _ _ rfl) | exact .base (.nilown _ rfl) | exact .base (.trunc _ _ _ rfl)), trivial⟩ ⟨⟨_, rfl, (by first | exact .row _ _ _ _ _ _ _ rfl (by rw [Int.toNat_natCast]; exact (List.map_replicate (f := encB)).symm) | exact .lstrow _ _ _ _ _ _ _ rfl (by rw [Int.toNat_natCast]; exact (List.map_replicate (f := encB)).symm) | exact .nilrow _ _ _ _ _ (by rw [Int.toNat_natCast]; exact (List.map_replicate (f := encB)).symm) | exact .truncrow _ _ _ _ _ _ _ _ rfl (by omega) (by rw [Int.toNat_natCast]; exact (List.map_replicate (f := encB)).symm))⟩, ⟨_, rfl, (by first | exact .row _ _ _ _ _ _ _ rfl rfl | exact .lstrow _ _ _ _ _ _ _ rfl rfl | exact .nilrow _ _ _ _ _ rfl | exact .truncrow _ _ _ _ _ _ _ _ rfl (by omega) rfl)⟩, trivial⟩)) ?_
  · rw [List.getD_eq_getElem?_getD, List.getElem?_replicate] at hk
    split at hk <;> simp at hk
  · rcases hm with rfl | hm
    · simp
    · rw [List.getD_eq_getElem?_getD, List.getElem?_replicate] at hm
      split at hm <;> simp at hm
  rintro ⟨O, T⟩ ⟨hS, hC, hB⟩
  show evCode _ _ (⟨[(0, .sl 1 encIs [] g), (5, .own 0), (6, .own 1)], [(0, .row 4 1 encB false O), (1, .row 3 1 encI 0 T)], 2⟩) _
  simp only at hS hC hB
  conv => whnf
  refine ⟨fun hc => ?_, fun hc => ?_⟩
  · have hc := of_decide_eq_true hc
    obtain ⟨T0, v, rfl⟩ : ∃ T0 v, T = T0 ++ [v] := by
      rcases List.eq_nil_or_concat T with rfl | ⟨T0, v, rfl⟩
      · simp at hc
      · exact ⟨T0, v, by simp⟩
    obtain ⟨m, rfl, hm, hmi⟩ := hS.todo v (by simp)
    have hTl : (T0 ++ [(m : Int)]).length = T0.length + 1 := by simp
    have hT1 : (((T0 ++ [(m : Int)]).length : Int) - 1).toNat = T0.length := by rw [hTl]; omega
    have hT2 : (T0 ++ [(m : Int)]).getD T0.length 0 = (m : Int) := by simp
    have hT3 : (T0 ++ [(m : Int)]).take T0.length = T0 := List.take_left
    have hTn : ((m : Int)).toNat = m := Int.toNat_natCast m
    have hrow := hg _ (getD_mem (d := []) hm)
    have hSm : ∀ k, Stp g m k → (k : Int) ∈ g.getD m [] := fun k h => h
    generalize hT : T0 ++ [(m : Int)] = T at *
    conv => whnf
    repeat (first | (refine And.intro ⟨by omega, by omega⟩ ?_; conv => whnf) | (refine And.intro (by omega) (And.intro rfl ?_); conv => whnf) | (refine And.intro rfl ?_; conv => whnf) | (refine And.intro (fun _ => ⟨by omega, by omega⟩) ?_; conv => whnf) | (refine And.intro (fun _ => by omega) (And.intro rfl ?_); conv => whnf) | (refine And.intro ⟨(by first | omega | (simp; omega)), (by first | omega | (simp; omega))⟩ ?_; conv => whnf) | (refine Exists.intro _ (And.intro rfl (And.intro (by first | omega | (simp; omega)) (And.intro ⟨rfl, rfl, rfl, rfl, rfl⟩ ?_))); conv => whnf) | (refine And.intro ⟨rfl, rfl⟩ (And.intro (by first | omega | (simp; omega)) ?_); conv => whnf) | (refine Exists.intro _ (And.intro rfl ?_); conv => whnf) | (refine And.intro (fun _ => ?_) (fun h => absurd h (by decide)); conv => whnf) | (refine And.intro (fun h => absurd h (by decide)) (fun _ => ?_); conv => whnf) | (refine .quiet (by kernel_rfl) ?_; conv => whnf))
    rw [hT1, hT2]
    conv => whnf
    repeat (first | (refine And.intro ⟨by omega, by omega⟩ ?_; conv => whnf) | (refine And.intro (by omega) (And.intro rfl ?_); conv => whnf) | (refine And.intro rfl ?_; conv => whnf) | (refine And.intro (fun _ => ⟨by omega, by omega⟩) ?_; conv => whnf) | (refine And.intro (fun _ => by omega) (And.intro rfl ?_); conv => whnf) | (refine And.intro ⟨(by first | omega | (simp; omega)), (by first | omega | (simp; omega))⟩ ?_; conv => whnf) | (refine Exists.intro _ (And.intro rfl (And.intro (by first | omega | (simp; omega)) (And.intro ⟨rfl, rfl, rfl, rfl, rfl⟩ ?_))); conv => whnf) | (refine And.intro ⟨rfl, rfl⟩ (And.intro (by first | omega | (simp; omega)) ?_); conv => whnf) | (refine Exists.intro _ (And.intro rfl ?_); conv => whnf) | (refine And.intro (fun _ => ?_) (fun h => absurd h (by decide)); conv => whnf) | (refine And.intro (fun h => absurd h (by decide)) (fun _ => ?_); conv => whnf) | (refine .quiet (by kernel_rfl) ?_; conv => whnf))
    have hS0 : Srch g i O T0 := ⟨hS.len, hS.sound, fun v hv => hS.todo v (by rw [← hT]; exact List.mem_append_left _ hv)⟩
    have hC0 : Clsd g i O T0 (fun x => x = m) := fun x hx => by
      rcases hC x hx with h1 | h1 | h1
      · exact h1.elim
      · rw [← hT] at h1
        rcases List.mem_append.1 h1 with h2 | h2
        · exact .inr (.inl h2)
        · rw [List.mem_singleton] at h2
          exact .inl (by omega)
      · exact .inr (.inr h1)
    rw [hTn]
    have hstp : ∀ j, j < (g.getD m []).length → ∃ k : Nat, (g.getD m []).getD j 0 = (k : Int) ∧ k < g.length ∧ Stp g m k := fun j hj => by
      have hmem : (g.getD m []).getD j 0 ∈ g.getD m [] := getD_mem hj
      have := hrow.2 _ hmem
      exact ⟨((g.getD m []).getD j 0).toNat, by omega, by omega, by show ((((g.getD m []).getD j 0).toNat : Nat) : Int) ∈ _; rw [show ((((g.getD m []).getD j 0).toNat : Nat) : Int) = (g.getD m []).getD j 0 by omega]; exact hmem⟩
    have hall : ∀ O' : List Bool, (∀ j, j < (g.getD m []).length → O'.getD ((g.getD m []).getD j 0).toNat false = true) → ∀ k, Stp g m k → O'.getD k false = true := fun O' h k hk => by
      obtain ⟨j, hj, e⟩ := mem_getD (d := 0) (show (k : Int) ∈ g.getD m [] from hk)
      have := h j hj
      rw [e, Int.toNat_natCast] at this
      exact this
    generalize g.getD m [] = r at *
    refine loop_inv (cxOk _ _) (σ := Nat × List Bool × List Int) (fun s => s.1 ≤ r.length ∧ Srch g i s.2.1 s.2.2 ∧ Clsd g i s.2.1 s.2.2 (fun x => x = m) ∧ 2 * unmet s.2.1 + s.2.2.length ≤ 2 * unmet O + T0.length ∧ ∀ j, j < s.1 → s.2.1.getD (r.getD j 0).toNat false = true) (fun s => r.length - s.1) (fun s => ⟨[(0, .sl 1 encIs [] g), (5, .own 0), (6, .own 1), (32, .sl 1 encI 0 r), (33, .int .i64 r.length), (34, .int .i64 ((s.1) : Nat))], [(0, .row 4 1 encB false (s.2.1)), (1, .row 3 1 encI 0 (s.2.2))], 2⟩) (0, O, T0) ⟨Nat.zero_le _, hS0, hC0, Nat.le_refl _, fun j hj => absurd hj (Nat.not_lt_zero _)⟩ ((wk_of [(0, .id 0), (1, .trunc 1 T0.length)] rfl ⟨.base (.tree _ _ rfl rfl), (by first | exact .base (.own _ _ rfl) | exact .base (.nilown _ rfl) | exact .base (.trunc _ _ _ rfl)), (by first | exact .base (.own _ _ rfl) | exact .base (.nilown _ rfl) | exact .base (.trunc _ _ _ rfl)), .base (.tree _ _ rfl rfl), .base (.tree _ _ rfl rfl), .base (.tree _ _ rfl rfl), trivial⟩ ⟨⟨_, rfl, (by first | exact .row _ _ _ _ _ _ _ rfl rfl | exact .lstrow _ _ _ _ _ _ _ rfl rfl | exact .nilrow _ _ _ _ _ rfl | exact .truncrow _ _ _ _ _ _ _ _ rfl (by omega) rfl)⟩, ⟨_, rfl, .truncrow _ _ _ _ _ _ _ _ rfl (by omega) hT3⟩, trivial⟩)) ?_
    rintro ⟨j, O2, T2⟩ ⟨hj, hS2, hC2, hB2, hJ2⟩
    show evCode _ _ (⟨[(0, .sl 1 encIs [] g), (5, .own 0), (6, .own 1), (32, .sl 1 encI 0 r), (33, .int .i64 r.length), (34, .int .i64 (j : Nat))], [(0, .row 4 1 encB false O2), (1, .row 3 1 encI 0 T2)], 2⟩) _
    simp only at hj hS2 hC2 hB2 hJ2
    have hek : (j : Int).toNat = j := Int.toNat_natCast j
    have hO2 := hS2.len
    conv => whnf
    refine ⟨fun hd => ?_, fun hd => ?_⟩
    · have hd := of_decide_eq_true hd
      have hlt : j < r.length := by omega
      obtain ⟨k, hk1, hk2, hk3⟩ := hstp j hlt
      have hnk : (k : Int).toNat = k := Int.toNat_natCast k
      conv => whnf
      repeat (first | (refine And.intro ⟨by omega, by omega⟩ ?_; conv => whnf) | (refine And.intro (by omega) (And.intro rfl ?_); conv => whnf) | (refine And.intro rfl ?_; conv => whnf) | (refine And.intro (fun _ => ⟨by omega, by omega⟩) ?_; conv => whnf) | (refine And.intro (fun _ => by omega) (And.intro rfl ?_); conv => whnf) | (refine And.intro ⟨(by first | omega | (simp; omega)), (by first | omega | (simp; omega))⟩ ?_; conv => whnf) | (refine Exists.intro _ (And.intro rfl (And.intro (by first | omega | (simp; omega)) (And.intro ⟨rfl, rfl, rfl, rfl, rfl⟩ ?_))); conv => whnf) | (refine And.intro ⟨rfl, rfl⟩ (And.intro (by first | omega | (simp; omega)) ?_); conv => whnf) | (refine Exists.intro _ (And.intro rfl ?_); conv => whnf) | (refine And.intro (fun _ => ?_) (fun h => absurd h (by decide)); conv => whnf) | (refine And.intro (fun h => absurd h (by decide)) (fun _ => ?_); conv => whnf) | (refine .quiet (by kernel_rfl) ?_; conv => whnf))
      rw [hek, hk1]
      conv => whnf
      repeat (first | (refine And.intro ⟨by omega, by omega⟩ ?_; conv => whnf) | (refine And.intro (by omega) (And.intro rfl ?_); conv => whnf) | (refine And.intro rfl ?_; conv => whnf) | (refine And.intro (fun _ => ⟨by omega, by omega⟩) ?_; conv => whnf) | (refine And.intro (fun _ => by omega) (And.intro rfl ?_); conv => whnf) | (refine And.intro ⟨(by first | omega | (simp; omega)), (by first | omega | (simp; omega))⟩ ?_; conv => whnf) | (refine Exists.intro _ (And.intro rfl (And.intro (by first | omega | (simp; omega)) (And.intro ⟨rfl, rfl, rfl, rfl, rfl⟩ ?_))); conv => whnf) | (refine And.intro ⟨rfl, rfl⟩ (And.intro (by first | omega | (simp; omega)) ?_); conv => whnf) | (refine Exists.intro _ (And.intro rfl ?_); conv => whnf) | (refine And.intro (fun _ => ?_) (fun h => absurd h (by decide)); conv => whnf) | (refine And.intro (fun h => absurd h (by decide)) (fun _ => ?_); conv => whnf) | (refine .quiet (by kernel_rfl) ?_; conv => whnf))
      rw [hnk]
      cases hb : O2.getD k false with
      | true =>
        conv => whnf
        refine ⟨fun h5 => (by cases h5), fun _ => ?_⟩
        conv => whnf
        repeat (first | (refine And.intro ⟨by omega, by omega⟩ ?_; conv => whnf) | (refine And.intro (by omega) (And.intro rfl ?_); conv => whnf) | (refine And.intro rfl ?_; conv => whnf) | (refine And.intro (fun _ => ⟨by omega, by omega⟩) ?_; conv => whnf) | (refine And.intro (fun _ => by omega) (And.intro rfl ?_); conv => whnf) | (refine And.intro ⟨(by first | omega | (simp; omega)), (by first | omega | (simp; omega))⟩ ?_; conv => whnf) | (refine Exists.intro _ (And.intro rfl (And.intro (by first | omega | (simp; omega)) (And.intro ⟨rfl, rfl, rfl, rfl, rfl⟩ ?_))); conv => whnf) | (refine And.intro ⟨rfl, rfl⟩ (And.intro (by first | omega | (simp; omega)) ?_); conv => whnf) | (refine Exists.intro _ (And.intro rfl ?_); conv => whnf) | (refine And.intro (fun _ => ?_) (fun h => absurd h (by decide)); conv => whnf) | (refine And.intro (fun h => absurd h (by decide)) (fun _ => ?_); conv => whnf) | (refine .quiet (by kernel_rfl) ?_; conv => whnf))
        refine ⟨(j + 1, O2, T2), ⟨hlt, hS2, hC2, hB2, fun j' hj' => ?_⟩, by show r.length - (j + 1) < r.length - j; omega, (wk_of [(0, .id 0), (1, .id 1)] rfl ⟨.base (.tree _ _ rfl rfl), (by first | exact .base (.own _ _ rfl) | exact .base (.nilown _ rfl) | exact .base (.trunc _ _ _ rfl)), (by first | exact .base (.own _ _ rfl) | exact .base (.nilown _ rfl) | exact .base (.trunc _ _ _ rfl)), .base (.tree _ _ rfl rfl), .base (.tree _ _ rfl rfl), .base (.tree _ _ rfl rfl), trivial⟩ ⟨⟨_, rfl, (by first | exact .row _ _ _ _ _ _ _ rfl rfl | exact .lstrow _ _ _ _ _ _ _ rfl rfl | exact .nilrow _ _ _ _ _ rfl | exact .truncrow _ _ _ _ _ _ _ _ rfl (by omega) rfl)⟩, ⟨_, rfl, (by first | exact .row _ _ _ _ _ _ _ rfl rfl | exact .lstrow _ _ _ _ _ _ _ rfl rfl | exact .nilrow _ _ _ _ _ rfl | exact .truncrow _ _ _ _ _ _ _ _ rfl (by omega) rfl)⟩, trivial⟩)⟩
        have hj' : j' < j + 1 := hj'
        by_cases e : j' = j
        · subst e; rw [hk1, hnk]; exact hb
        · exact hJ2 j' (by omega)
      | false =>
        conv => whnf
        refine ⟨fun _ => ?_, fun h5 => (by cases h5)⟩
        conv => whnf
        repeat (first | (refine And.intro ⟨by omega, by omega⟩ ?_; conv => whnf) | (refine And.intro (by omega) (And.intro rfl ?_); conv => whnf) | (refine And.intro rfl ?_; conv => whnf) | (refine And.intro (fun _ => ⟨by omega, by omega⟩) ?_; conv => whnf) | (refine And.intro (fun _ => by omega) (And.intro rfl ?_); conv => whnf) | (refine And.intro ⟨(by first | omega | (simp; omega)), (by first | omega | (simp; omega))⟩ ?_; conv => whnf) | (refine Exists.intro _ (And.intro rfl (And.intro (by first | omega | (simp; omega)) (And.intro ⟨rfl, rfl, rfl, rfl, rfl⟩ ?_))); conv => whnf) | (refine And.intro ⟨rfl, rfl⟩ (And.intro (by first | omega | (simp; omega)) ?_); conv => whnf) | (refine Exists.intro _ (And.intro rfl ?_); conv => whnf) | (refine And.intro (fun _ => ?_) (fun h => absurd h (by decide)); conv => whnf) | (refine And.intro (fun h => absurd h (by decide)) (fun _ => ?_); conv => whnf) | (refine .eff (by first | exact cxOk _ _ | exact cxPOk _ _ _) ?_; conv => whnf))
        have hun := unmet_set (O := O2) (k := k) (by omega) hb
        refine And.intro ⟨rfl, rfl⟩ (And.intro (show (T2.length + 1) * 8 ≤ 140737488355328 by omega) ?_)
        conv => whnf
        refine ⟨(k : Int), rfl, ?_⟩
        conv => whnf
        repeat (first | (refine And.intro ⟨by omega, by omega⟩ ?_; conv => whnf) | (refine And.intro (by omega) (And.intro rfl ?_); conv => whnf) | (refine And.intro rfl ?_; conv => whnf) | (refine And.intro (fun _ => ⟨by omega, by omega⟩) ?_; conv => whnf) | (refine And.intro (fun _ => by omega) (And.intro rfl ?_); conv => whnf) | (refine And.intro ⟨(by first | omega | (simp; omega)), (by first | omega | (simp; omega))⟩ ?_; conv => whnf) | (refine Exists.intro _ (And.intro rfl (And.intro (by first | omega | (simp; omega)) (And.intro ⟨rfl, rfl, rfl, rfl, rfl⟩ ?_))); conv => whnf) | (refine And.intro ⟨rfl, rfl⟩ (And.intro (by first | omega | (simp; omega)) ?_); conv => whnf) | (refine Exists.intro _ (And.intro rfl ?_); conv => whnf) | (refine And.intro (fun _ => ?_) (fun h => absurd h (by decide)); conv => whnf) | (refine And.intro (fun h => absurd h (by decide)) (fun _ => ?_); conv => whnf) | (refine .quiet (by kernel_rfl) ?_; conv => whnf))
        have hmi' : m = i ∨ Lds g i m := hmi
        refine ⟨(j + 1, O2.set k true, T2 ++ [(k : Int)]), ⟨hlt, hS2.meet hmi' hk3 hk2, hC2.meet (by omega), ?_, fun j' hj' => ?_⟩, by show r.length - (j + 1) < r.length - j; omega, (by rw [hnk]; exact (wk_of [(0, .id 0), (1, .id 3)] rfl ⟨.base (.tree _ _ rfl rfl), (by first | exact .base (.own _ _ rfl) | exact .base (.nilown _ rfl) | exact .base (.trunc _ _ _ rfl)), (by first | exact .base (.own _ _ rfl) | exact .base (.nilown _ rfl) | exact .base (.trunc _ _ _ rfl)), .base (.tree _ _ rfl rfl), .base (.tree _ _ rfl rfl), .base (.tree _ _ rfl rfl), trivial⟩ ⟨⟨_, rfl, (by first | exact .row _ _ _ _ _ _ _ rfl rfl | exact .lstrow _ _ _ _ _ _ _ rfl rfl | exact .nilrow _ _ _ _ _ rfl | exact .truncrow _ _ _ _ _ _ _ _ rfl (by omega) rfl)⟩, ⟨_, rfl, (by first | exact .row _ _ _ _ _ _ _ rfl rfl | exact .lstrow _ _ _ _ _ _ _ rfl rfl | exact .nilrow _ _ _ _ _ rfl | exact .truncrow _ _ _ _ _ _ _ _ rfl (by omega) rfl)⟩, trivial⟩))⟩
        · show 2 * unmet (O2.set k true) + (T2 ++ [(k : Int)]).length ≤ _
          rw [List.length_append, List.length_singleton]
          omega
        · have hj' : j' < j + 1 := hj'
          show (O2.set k true).getD _ false = true
          rw [getD_setB (by omega)]
          split
          · rfl
          · rename_i hne
            by_cases e : j' = j
            · subst e; rw [hk1, hnk] at hne; exact absurd rfl hne
            · exact hJ2 j' (by omega)
    · have hd := of_decide_eq_false hd
      obtain rfl : j = r.length := by omega
      conv => whnf
      refine ⟨(O2, T2), ⟨hS2, fun x hx => .inr ?_, by show 2 * unmet O2 + T2.length ≤ _; omega⟩, by show 2 * unmet O2 + T2.length < 2 * unmet O + T.length; omega, (wk_of [(0, .id 0), (1, .id 1)] rfl ⟨.base (.tree _ _ rfl rfl), (by first | exact .base (.own _ _ rfl) | exact .base (.nilown _ rfl) | exact .base (.trunc _ _ _ rfl)), (by first | exact .base (.own _ _ rfl) | exact .base (.nilown _ rfl) | exact .base (.trunc _ _ _ rfl)), trivial⟩ ⟨⟨_, rfl, (by first | exact .row _ _ _ _ _ _ _ rfl rfl | exact .lstrow _ _ _ _ _ _ _ rfl rfl | exact .nilrow _ _ _ _ _ rfl | exact .truncrow _ _ _ _ _ _ _ _ rfl (by omega) rfl)⟩, ⟨_, rfl, (by first | exact .row _ _ _ _ _ _ _ rfl rfl | exact .lstrow _ _ _ _ _ _ _ rfl rfl | exact .nilrow _ _ _ _ _ rfl | exact .truncrow _ _ _ _ _ _ _ _ rfl (by omega) rfl)⟩, trivial⟩)⟩
      rcases hC2 x hx with h1 | h1
      · subst h1; exact .inr (hall O2 hJ2)
      · exact h1
  · have hc := of_decide_eq_false hc
    obtain rfl : T = [] := List.eq_nil_of_length_eq_zero (by omega)
    have he := srch_end hS hC
    conv => whnf
    rw [he]
    rfl
end Go.Proofs.Ytmcgfkkagijcmaa

namespace Go.Proofs.Ytmcgfkkagijcmaa
open Go.Own

/-! ### Groups, in plain words -/
theorem lds_trans {g : List (List Int)} {i j k : Nat} (h : Lds g i j) (h' : Lds g j k) : Lds g i k := by
  induction h' with
  | one s => exact .more h s
  | more _ s ih => exact .more ih s
/-- They lead to each other. -/
noncomputable def both (g : List (List Int)) (i k : Nat) : Bool := ldB g i k && ldB g k i && !decide (i = k)
noncomputable def okK (g : List (List Int)) (P : List Bool) (i k : Nat) : Bool := both g i k || decide (k = i) || P.getD k false || !ldB g i k
noncomputable def rdyN (g : List (List Int)) (P : List Bool) (i : Nat) : Nat → Bool
  | 0 => !P.getD i false
  | k + 1 => rdyN g P i k && okK g P i k
noncomputable def rdy (g : List (List Int)) (P : List Bool) (i : Nat) : Bool := rdyN g P i g.length
theorem rdyN_iff {g : List (List Int)} {P : List Bool} {i : Nat} : ∀ {n : Nat}, rdyN g P i n = true ↔ P.getD i false = false ∧ ∀ k, k < n → okK g P i k = true
  | 0 => by simp [rdyN]
  | n + 1 => by
    rw [rdyN, Bool.and_eq_true, rdyN_iff (n := n)]
    constructor
    · rintro ⟨⟨h1, h2⟩, h3⟩
      refine ⟨h1, fun k hk => ?_⟩
      by_cases e : k = n
      · subst e; exact h3
      · exact h2 k (by omega)
    · rintro ⟨h1, h2⟩
      exact ⟨⟨h1, fun k hk => h2 k (by omega)⟩, h2 n (by omega)⟩
noncomputable def cls (g : List (List Int)) (i : Nat) : List Nat := (List.range g.length).filter fun k => decide (k = i) || both g i k
theorem cls_mem {g : List (List Int)} {i k : Nat} : k ∈ cls g i ↔ k < g.length ∧ (k = i ∨ (Lds g i k ∧ Lds g k i)) := by
  simp only [cls, both, List.mem_filter, List.mem_range, Bool.or_eq_true, decide_eq_true_eq, Bool.and_eq_true, Bool.not_eq_true', decide_eq_false_iff_not, ldB_iff]
  constructor
  · rintro ⟨h1, h2 | ⟨h2, _⟩⟩
    · exact ⟨h1, .inl h2⟩
    · exact ⟨h1, .inr h2⟩
  · rintro ⟨h1, h2⟩
    refine ⟨h1, ?_⟩
    by_cases e : k = i
    · exact .inl e
    · exact .inr ⟨h2.resolve_left e, fun e' => e e'.symm⟩
theorem cls_asc (g : List (List Int)) (i : Nat) : (cls g i).Pairwise (· < ·) := List.Pairwise.filter _ List.pairwise_lt_range
/-- The group as it is found. -/
noncomputable def found (g : List (List Int)) (i k : Nat) : List Int := (i : Int) :: cs ((List.range k).filter fun j => both g i j)
theorem found_succ (g : List (List Int)) (i k : Nat) : found g i (k + 1) = if both g i k then found g i k ++ [(k : Int)] else found g i k := by
  unfold found cs
  rw [List.range_succ, List.filter_append, List.map_append]
  cases hb : both g i k <;> simp [hb]
theorem found_len (g : List (List Int)) (i k : Nat) : (found g i k).length ≤ k + 1 := by
  unfold found cs
  rw [List.length_cons, List.length_map]
  have := List.length_filter_le (fun j => both g i j) (List.range k)
  rw [List.length_range] at this
  omega
theorem found_sort {g : List (List Int)} {i : Nat} (hi : i < g.length) : (found g i g.length).mergeSort leZ = cs (cls g i) := by
  have hnd : (found g i g.length).Nodup := by
    unfold found cs
    rw [List.nodup_cons]
    refine ⟨fun h => ?_, ?_⟩
    · obtain ⟨k, hk, e⟩ := List.mem_map.1 h
      have e : k = i := Int.ofNat.inj e
      subst e
      have := (List.mem_filter.1 hk).2
      simp [both] at this
    · rw [List.nodup_iff_pairwise_ne, List.pairwise_map]
      exact (List.Pairwise.filter _ List.pairwise_lt_range).imp fun h e => by have := Int.ofNat.inj e; omega
  refine ascI_eq (sort_asc hnd) (cs_asc (cls_asc g i)) fun z => ?_
  rw [List.mem_mergeSort]
  unfold found cs
  rw [List.mem_cons, List.mem_map, List.mem_map]
  constructor
  · rintro (rfl | ⟨k, hk, rfl⟩)
    · exact ⟨i, cls_mem.2 ⟨hi, .inl rfl⟩, rfl⟩
    · refine ⟨k, ?_, rfl⟩
      have h1 := List.mem_filter.1 hk
      unfold cls
      rw [List.mem_filter]
      exact ⟨h1.1, by rw [h1.2, Bool.or_true]⟩
  · rintro ⟨k, hk, rfl⟩
    have h1 := List.mem_filter.1 hk
    by_cases e : k = i
    · subst e; exact .inl rfl
    · refine .inr ⟨k, List.mem_filter.2 ⟨h1.1, ?_⟩, rfl⟩
      have := h1.2
      simpa [e] using this

/-- What is placed after the first of a group are. -/
def putL (P : List Bool) : List Nat → List Bool
  | [] => P
  | k :: c => putL (P.set k true) c
theorem putL_len : ∀ {c : List Nat} {P : List Bool}, (putL P c).length = P.length
  | [], _ => rfl
  | k :: c, P => by rw [putL, putL_len, List.length_set]
theorem putL_get : ∀ {c : List Nat} {P : List Bool} (_ : ∀ k ∈ c, k < P.length) (j : Nat), (putL P c).getD j false = true ↔ P.getD j false = true ∨ j ∈ c
  | [], _, _, j => by simp [putL]
  | k :: c, P, h, j => by
    rw [putL, putL_get (fun k' hk => by rw [List.length_set]; exact h k' (by simp [hk])), getD_setB (h k (by simp))]
    by_cases e : j = k
    · subst e; simp
    · rw [if_neg e, List.mem_cons]
      simp [e]
theorem putL_snoc : ∀ (c : List Nat) (P : List Bool) (k : Nat), putL P (c ++ [k]) = (putL P c).set k true
  | [], _, _ => rfl
  | _ :: c, P, k => by rw [List.cons_append, putL, putL, putL_snoc c]
theorem putL_unmet : ∀ {c : List Nat} {P : List Bool} (_ : ∀ k ∈ c, k < P.length ∧ P.getD k false = false) (_ : c.Nodup), unmet (putL P c) + c.length = unmet P
  | [], _, _, _ => rfl
  | k :: c, P, h, hn => by
    rw [List.nodup_cons] at hn
    have h0 := h k (by simp)
    have := putL_unmet (c := c) (P := P.set k true) (fun k' hk => by
      have h1 := h k' (by simp [hk])
      refine ⟨by rw [List.length_set]; exact h1.1, ?_⟩
      rw [getD_setB h0.1, if_neg (fun e : k' = k => hn.1 (by rw [← e]; exact hk))]
      exact h1.2) hn.2
    have h2 := unmet_set h0.1 h0.2
    rw [putL, List.length_cons]
    omega

/-- What is placed, and all that it leads to. -/
structure Plc (g : List (List Int)) (P : List Bool) : Prop where
  len : P.length = g.length
  clo : ∀ i k, P.getD i false = true → Lds g i k → P.getD k false = true
theorem lds_lt {g : List (List Int)} (hg : InR g) {i k : Nat} (h : Lds g i k) : i < g.length ∧ k < g.length := by
  have key : ∀ {i k : Nat}, Stp g i k → i < g.length ∧ k < g.length := by
    intro i k h
    unfold Stp at h
    by_cases hi : i < g.length
    · have := (hg _ (getD_mem (d := []) hi)).2 _ h
      exact ⟨hi, by omega⟩
    · rw [List.getD_eq_getElem?_getD, List.getElem?_eq_none (by omega)] at h
      cases h
  induction h with
  | one s => exact key s
  | more _ s ih => exact ⟨ih.1, (key s).2⟩
theorem getD_ltB {P : List Bool} {k : Nat} (h : P.getD k false = true) : k < P.length := by
  by_cases hk : k < P.length
  · exact hk
  · rw [List.getD_eq_getElem?_getD, List.getElem?_eq_none (by omega)] at h
    cases h
theorem okK_iff {g : List (List Int)} {P : List Bool} {i k : Nat} : okK g P i k = true ↔ (Lds g i k → (Lds g k i ∨ k = i ∨ P.getD k false = true)) := by
  simp only [okK, both, Bool.or_eq_true, Bool.and_eq_true, decide_eq_true_eq, Bool.not_eq_true', decide_eq_false_iff_not]
  constructor
  · rintro (((⟨⟨_, h2⟩, _⟩ | h) | h) | h) hl
    · exact .inl (ldB_iff.1 h2)
    · exact .inr (.inl h)
    · exact .inr (.inr h)
    · rw [ldB_iff.2 hl] at h; cases h
  · intro h
    cases hb : ldB g i k with
    | false => exact .inr rfl
    | true =>
      by_cases e : k = i
      · exact .inl (.inl (.inr e))
      · rcases h (ldB_iff.1 hb) with h1 | h1 | h1
        · exact .inl (.inl (.inl ⟨⟨rfl, ldB_iff.2 h1⟩, fun e' => e e'.symm⟩))
        · exact absurd h1 e
        · exact .inl (.inr h1)
theorem rdy_iff {g : List (List Int)} (hg : InR g) {P : List Bool} {i : Nat} : rdy g P i = true ↔ P.getD i false = false ∧ ∀ k, Lds g i k → (Lds g k i ∨ k = i ∨ P.getD k false = true) := by
  unfold rdy
  rw [rdyN_iff]
  constructor
  · rintro ⟨h1, h2⟩
    exact ⟨h1, fun k hk => okK_iff.1 (h2 k (lds_lt hg hk).2) hk⟩
  · rintro ⟨h1, h2⟩
    exact ⟨h1, fun k _ => okK_iff.2 (h2 k)⟩
/-- One that is ready has a group of which none is placed. -/
theorem cls_free {g : List (List Int)} {P : List Bool} (hP : Plc g P) {i : Nat} (h : P.getD i false = false) : ∀ k ∈ cls g i, k < P.length ∧ P.getD k false = false := by
  intro k hk
  obtain ⟨h1, h2⟩ := cls_mem.1 hk
  refine ⟨by rw [hP.len]; exact h1, ?_⟩
  rcases h2 with rfl | ⟨_, h3⟩
  · exact h
  · cases hb : P.getD k false with
    | false => rfl
    | true => rw [hP.clo k i hb h3] at h; cases h
theorem Plc.put {g : List (List Int)} (hg : InR g) {P : List Bool} (hP : Plc g P) {i : Nat} (hr : rdy g P i = true) : Plc g (putL P (cls g i)) := by
  obtain ⟨h1, h2⟩ := (rdy_iff hg).1 hr
  have hf := cls_free hP h1
  refine ⟨by rw [putL_len, hP.len], fun a b ha hab => ?_⟩
  rw [putL_get fun k hk => (hf k hk).1] at ha ⊢
  have hb := (lds_lt hg hab).2
  rcases ha with ha | ha
  · exact .inl (hP.clo a b ha hab)
  · obtain ⟨_, h3⟩ := cls_mem.1 ha
    have hib : Lds g i b := by
      rcases h3 with rfl | h3
      · exact hab
      · exact lds_trans h3.1 hab
    rcases h2 b hib with h4 | h4 | h4
    · exact .inr (cls_mem.2 ⟨hb, .inr ⟨hib, h4⟩⟩)
    · exact .inr (cls_mem.2 ⟨hb, .inl h4⟩)
    · exact .inl h4
/-- As long as one is not placed, one is ready. -/
theorem rdy_ex {g : List (List Int)} (hg : InR g) {P : List Bool} (hP : P.length = g.length) (h : 0 < unmet P) : ∃ i, i < g.length ∧ rdy g P i = true := by
  classical
  have key : ∀ (n i : Nat), ((List.range g.length).filter fun k => decide (k = i) || ldB g i k).length ≤ n → i < g.length → P.getD i false = false → ∃ i, i < g.length ∧ rdy g P i = true := by
    intro n
    induction n with
    | zero =>
      intro i h0 hi _
      have : i ∈ (List.range g.length).filter fun k => decide (k = i) || ldB g i k := List.mem_filter.2 ⟨List.mem_range.2 hi, by simp⟩
      have := List.length_pos_of_mem this
      omega
    | succ n ih =>
      intro i hn hi h0
      by_cases hr : rdy g P i = true
      · exact ⟨i, hi, hr⟩
      · have hr' : ¬ ∀ k, Lds g i k → (Lds g k i ∨ k = i ∨ P.getD k false = true) := fun h1 => hr ((rdy_iff hg).2 ⟨h0, h1⟩)
        obtain ⟨k, hk⟩ := Classical.not_forall.1 hr'
        have hl : Lds g i k := Classical.byContradiction fun h1 => hk fun h2 => absurd h2 h1
        have hk1 : ¬ Lds g k i := fun h1 => hk fun _ => .inl h1
        have hk2 : ¬ k = i := fun h1 => hk fun _ => .inr (.inl h1)
        have hk3 : P.getD k false = false := by
          cases hb : P.getD k false with
          | false => rfl
          | true => exact absurd (fun _ => .inr (.inr hb)) hk
        have hkl := (lds_lt hg hl).2
        refine ih k ?_ hkl hk3
        have hi' : i ∈ (List.range g.length).filter fun k => decide (k = i) || ldB g i k := List.mem_filter.2 ⟨List.mem_range.2 hi, by simp⟩
        have hsub := nodup_le (l := (List.range g.length).filter fun j => decide (j = k) || ldB g k j) (r := ((List.range g.length).filter fun k => decide (k = i) || ldB g i k).erase i) (List.Pairwise.filter _ List.nodup_range) fun a ha => by
          obtain ⟨h1, h2⟩ := List.mem_filter.1 ha
          simp only [Bool.or_eq_true, decide_eq_true_eq, ldB_iff] at h2
          have hai : a ≠ i := by
            rintro rfl
            rcases h2 with h2 | h2
            · exact hk2 h2.symm
            · exact hk1 h2
          rw [List.mem_erase_of_ne hai, List.mem_filter]
          refine ⟨h1, ?_⟩
          simp only [Bool.or_eq_true, decide_eq_true_eq, ldB_iff]
          right
          rcases h2 with rfl | h2
          · exact hl
          · exact lds_trans hl h2
        rw [List.length_erase_of_mem hi'] at hsub
        have := List.length_pos_of_mem hi'
        omega
  have : ∃ i, i < P.length ∧ P.getD i false = false := by
    unfold unmet at h
    obtain ⟨b, hb⟩ := List.exists_mem_of_length_pos h
    obtain ⟨h1, h2⟩ := List.mem_filter.1 hb
    obtain ⟨i, hi, e⟩ := mem_getD (d := false) h1
    exact ⟨i, hi, by rw [e]; simpa using h2⟩
  obtain ⟨i, hi, h0⟩ := this
  exact key _ i (Nat.le_refl _) (by rw [← hP]; exact hi) h0
/-- All are placed. -/
theorem unmet_zero {P : List Bool} (h : unmet P = 0) : ∀ k, k < P.length → P.getD k false = true := by
  intro k hk
  unfold unmet at h
  have h1 := List.eq_nil_of_length_eq_zero h
  cases hb : P.getD k false with
  | true => rfl
  | false =>
    have : P.getD k false ∈ P.filter fun b => !b := List.mem_filter.2 ⟨getD_mem hk, by rw [hb]; rfl⟩
    rw [h1] at this
    cases this

/-! ### The order of the groups -/
noncomputable def firstR (g : List (List Int)) (P : List Bool) : Option Nat := (List.range g.length).find? fun i => rdy g P i
/-- The groups, from what is placed on. -/
inductive Grp (g : List (List Int)) : List Bool → List (List Int) → List Bool → Prop
  | nil (P : List Bool) : Grp g P [] P
  | snoc {P Q : List Bool} {L : List (List Int)} {i : Nat} (h : Grp g P L Q) (hi : i < g.length) (hr : rdy g Q i = true) (hmin : ∀ j, j < i → rdy g Q j = false) : Grp g P (L ++ [cs (cls g i)]) (putL Q (cls g i))
theorem Grp.plc {g : List (List Int)} (hg : InR g) {P Q : List Bool} {L : List (List Int)} (h : Grp g P L Q) (hP : Plc g P) : Plc g Q := by
  induction h with
  | nil => exact hP
  | snoc _ _ hr _ ih => exact ih.put hg hr
def none0 (n : Nat) : List Bool := List.replicate n false
theorem none0_get (n k : Nat) : (none0 n).getD k false = false := by
  unfold none0
  rw [List.getD_eq_getElem?_getD, List.getElem?_replicate]
  split <;> rfl
theorem plc0 (g : List (List Int)) : Plc g (none0 g.length) := ⟨List.length_replicate, fun i k h => by rw [none0_get] at h; cases h⟩
theorem unmet0 (n : Nat) : unmet (none0 n) = n := by simp [unmet, none0]
/-- The groups are these. -/
def IsGroups (g : List (List Int)) (L : List (List Int)) : Prop := ∃ Q, Grp g (none0 g.length) L Q ∧ unmet Q = 0
noncomputable def grpF (g : List (List Int)) : Nat → List Bool → List (List Int)
  | 0, _ => []
  | f + 1, P => match firstR g P with
    | none => []
    | some i => cs (cls g i) :: grpF g f (putL P (cls g i))
noncomputable def gs (g : List (List Int)) : List (List Int) := grpF g g.length (none0 g.length)
theorem firstR_some {g : List (List Int)} {P : List Bool} {i : Nat} (hi : i < g.length) (hr : rdy g P i = true) (hmin : ∀ j, j < i → rdy g P j = false) : firstR g P = some i := by
  unfold firstR
  rw [List.find?_range_eq_some]
  exact ⟨hr, List.mem_range.2 hi, fun j hj => by rw [hmin j hj]; rfl⟩
theorem firstR_none {g : List (List Int)} {P : List Bool} (hP : P.length = g.length) (h : unmet P = 0) : firstR g P = none := by
  unfold firstR
  rw [List.find?_eq_none]
  intro i hi
  rw [List.mem_range] at hi
  unfold rdy
  rw [rdyN_iff, unmet_zero h i (by rw [hP]; exact hi)]
  rintro ⟨h1, _⟩
  cases h1
theorem Grp.run {g : List (List Int)} {P Q : List Bool} {L : List (List Int)} (h : Grp g P L Q) : ∀ f, L.length ≤ f → grpF g f P = L ++ grpF g (f - L.length) Q := by
  induction h with
  | nil => intro f _; rfl
  | snoc h hi hr hmin ih =>
    rename_i Q L i
    intro f hf
    rw [List.length_append, List.length_singleton] at hf ⊢
    rw [ih f (by omega), List.append_assoc]
    congr 1
    obtain ⟨n, hn⟩ : ∃ n, f - L.length = n + 1 := ⟨f - L.length - 1, by omega⟩
    rw [hn, show f - (L.length + 1) = n by omega, grpF, firstR_some hi hr hmin]
    rfl
theorem Grp.room {g : List (List Int)} (hg : InR g) {P Q : List Bool} {L : List (List Int)} (h : Grp g P L Q) (hP : Plc g P) : L.length + unmet Q ≤ unmet P := by
  induction h with
  | nil => simp
  | snoc h hi hr hmin ih =>
    rename_i Q L i
    have := putL_unmet (cls_free (h.plc hg hP) ((rdy_iff hg).1 hr).1) (List.nodup_iff_pairwise_ne.2 ((cls_asc g i).imp fun h => by omega))
    have h1 : i ∈ cls g i := cls_mem.2 ⟨hi, .inl rfl⟩
    have := List.length_pos_of_mem h1
    rw [List.length_append, List.length_singleton]
    omega
theorem IsGroups.eq {g L : List (List Int)} (hg : InR g) (h : IsGroups g L) : L = gs g := by
  obtain ⟨Q, h1, h2⟩ := h
  have hr := h1.room hg (plc0 g)
  rw [unmet0] at hr
  have := h1.run g.length (by omega)
  have hl := (h1.plc hg (plc0 g)).len
  unfold gs
  rw [this]
  cases hf : g.length - L.length with
  | zero => simp [grpF]
  | succ n => rw [grpF, firstR_none hl h2]; simp

end Go.Proofs.Ytmcgfkkagijcmaa

namespace Go.Proofs.Ytmcgfkkagijcmaa
open Go.Own
set_option maxHeartbeats 4000000
set_option maxRecDepth 100000

def encBs (l : List Bool) : AV := .sl 1 encB false l
theorem gl_len (l : List Ind) : (gl l).length = l.length := by unfold gl glN; rw [List.length_map, List.length_range]
theorem gl_in (l : List Ind) (h : l.length ≤ 1000000) : InR (gl l) := by
  intro r hr
  rw [gl_len]
  unfold gl glN at hr
  obtain ⟨i, hi, rfl⟩ := List.mem_map.1 hr
  unfold cs
  refine ⟨?_, fun v hv => ?_⟩
  · rw [List.length_map]
    unfold nxt
    refine Nat.le_trans (List.length_filter_le _ _) ?_
    rw [List.length_range]
    exact h
  · obtain ⟨k, hk, rfl⟩ := List.mem_map.1 hv
    have := (nxt_mem.1 hk).1
    exact ⟨Int.natCast_nonneg k, Int.ofNat_lt.2 this⟩
theorem errG_len {l : List Ind} (h : errG l = 0) : l.length ≤ 400 := by
  unfold errG at h
  split at h
  · assumption
  · cases h
/-- Groups' results. -/
noncomputable def rGr (l : List Ind) : List AR := if errG l = 0 then [.val (.sl 1 encIs [] (gs (gl l))), .val (.int .i64 0)] else [.val .nils, .val (.int .i64 (errG l))]
theorem encBs_cells (L : List (List Bool)) : ∀ x ∈ L.map encBs, x.cells.length = 1 := fun x hx => by
  obtain ⟨c, _, rfl⟩ := List.mem_map.1 hx
  rfl
theorem encBs_ones (L : List (List Bool)) : ∀ a ∈ flat (L.map encBs), a.one = true := fun a ha => by
  obtain ⟨x, hx, hax⟩ := List.mem_flatMap.1 ha
  obtain ⟨c, _, rfl⟩ := List.mem_map.1 hx
  simp [encBs, AV.cells] at hax
  subst hax
  rfl
theorem flat_one {l : List AV} (h : ∀ a ∈ l, a.cells = [a]) : flat l = l := by
  induction l with
  | nil => rfl
  | cons a l ih =>
    unfold flat at ih ⊢
    rw [List.flatMap_cons, h a (by simp), ih fun b hb => h b (by simp [hb])]
    rfl
theorem LeTs.of_get {l r : List AV} (hl : r.length = l.length) (h : ∀ (j : Nat) (a b : AV), l[j]? = some a → r[j]? = some b → LeT a b) : LeTs l r := by
  induction l generalizing r with
  | nil =>
    cases r with
    | nil => exact .nil
    | cons b r => simp at hl
  | cons a l ih =>
    cases r with
    | nil => simp at hl
    | cons b r => exact .cons (h 0 a b rfl rfl) (ih (by simpa using hl) fun j x y h1 h2 => h (j + 1) x y h1 h2)
theorem nils_let (n : Nat) : LeTs (flat (Src.list (.lst (List.replicate ((n : Int)).toNat AV.nils)))) (flat ((List.replicate n ([] : List Bool)).map encBs)) := by
  have e1 : flat (Src.list (.lst (List.replicate ((n : Int)).toNat AV.nils))) = List.replicate n AV.nils := flat_one fun a ha => by
    rw [(List.mem_replicate.1 ha).2]; rfl
  have e2 : flat ((List.replicate n ([] : List Bool)).map encBs) = List.replicate n (encBs []) := by
    rw [List.map_replicate]
    exact flat_one fun a ha => by rw [(List.mem_replicate.1 ha).2]; rfl
  rw [e1, e2]
  refine LeTs.of_get (by simp) fun j a b h1 h2 => ?_
  rw [List.getElem?_replicate] at h1 h2
  split at h1
  · rename_i h
    rw [if_pos h] at h2
    cases h1; cases h2
    exact LeT.nils_sl _ _ _
  · cases h1
noncomputable def ldN (g : List (List Int)) (n : Nat) : List (List Bool) := (List.range g.length).map fun j => if j < n then ldL g j else []
theorem ldN_get {g : List (List Int)} {n j : Nat} (hj : j < g.length) : (ldN g n).getD j [] = if j < n then ldL g j else [] := by
  unfold ldN
  rw [List.getD_eq_getElem?_getD, List.getElem?_map, List.getElem?_range hj]
  rfl
theorem ldN_zero (g : List (List Int)) : ldN g 0 = List.replicate g.length [] := by
  unfold ldN
  refine List.ext_getElem (by simp) fun k h1 h2 => by simp
theorem ldN_len (g : List (List Int)) (n : Nat) : (ldN g n).length = g.length := by unfold ldN; simp
theorem ldN_succ {g : List (List Int)} {n : Nat} (hn : n < g.length) : ldN g (n + 1) = (ldN g n).set n (ldL g n) := by
  refine List.ext_getElem (by simp [ldN]) fun k h1 h2 => ?_
  rw [List.getElem_set]
  simp only [ldN, List.getElem_map, List.getElem_range]
  by_cases e : n = k
  · subst e; simp
  · rw [if_neg e]
    by_cases e2 : k < n
    · rw [if_pos e2, if_pos (by omega)]
    · rw [if_neg e2, if_neg (by omega)]
theorem ldL_get {g : List (List Int)} {i k : Nat} (hk : k < g.length) : (ldL g i).getD k false = ldB g i k := by
  unfold ldL
  rw [List.getD_eq_getElem?_getD, List.getElem?_map, List.getElem?_range hk]
  rfl

theorem groups_ok (l : List Ind) (hl1 : l.length ≤ 9223372036854775807) (hx : l.length ≤ 400 → ∀ x ∈ l, OkX x) : APure Try.prog 11 [encXs l] (fun rs => rs = rGr l) := by
  refine apure_ofw (C := cx 138 [0, 2, 3, 4, 5, 6, 7, 8, 9, 10, 11, 12, 13, 14, 15, 16, 18, 25, 31, 32, 33, 46, 47, 48, 49, 58, 59, 60, 83, 115, 118, 119, 120, 121]) (cxOk _ _) Try.func11 rfl (by decide) rfl (by exact Nat.le_of_ble_eq_true rfl) (by decide) ?_
  conv => whnf
  by_cases hE : errG l = 0
  · refine .one _ _ _ (fun _ => (by have := graph_ok l hl1 hx; unfold rG at this; rw [if_pos hE] at this; exact this)) (by repeat (first | exact .nil | (apply BorL.cons; first | exact lS rfl | exact lR rfl | exact lM rfl rfl | exact lL rfl | exact lX rfl | exact lN | exact lNl | exact lSm rfl | exact lIm rfl | exact lP rfl | exact lQ rfl | exact lB rfl rfl rfl))) (by first | exact .inl rfl | exact .inr (by repeat (first | exact flats_nil | refine flats_cons (by first | exact flat_val _ rfl | exact flat_row (fun _ => rfl) | exact flat_lst (fun _ => rfl)) ?_))) (by first | exact .inr rfl | exact .inl rfl) ?_
    conv => whnf
    refine ⟨fun h => (by cases h), fun _ => ?_⟩
    have hlen := errG_len hE
    have hg := gl_in l (by omega)
    have hgl := gl_len l
    have hres : ∀ L, IsGroups (gl l) L → rGr l = [.val (.sl 1 encIs [] L), .val (.int .i64 0)] := fun L h => by unfold rGr; rw [if_pos hE, h.eq hg]
    generalize gl l = g at *
    have hgn : g.length ≤ 400 := by omega
    conv => whnf
    repeat (first | (refine And.intro ⟨by omega, by omega⟩ ?_; conv => whnf) | (refine And.intro (by omega) (And.intro rfl ?_); conv => whnf) | (refine And.intro rfl ?_; conv => whnf) | (refine And.intro (fun _ => ⟨by omega, by omega⟩) ?_; conv => whnf) | (refine And.intro (fun _ => by omega) (And.intro rfl ?_); conv => whnf) | (refine And.intro ⟨(by first | omega | (simp; omega)), (by first | omega | (simp; omega))⟩ ?_; conv => whnf) | (refine Exists.intro _ (And.intro rfl (And.intro (by first | omega | (simp; omega)) (And.intro ⟨rfl, rfl, rfl, rfl, rfl⟩ ?_))); conv => whnf) | (refine And.intro ⟨rfl, rfl⟩ (And.intro (by first | omega | (simp; omega)) ?_); conv => whnf) | (refine Exists.intro _ (And.intro rfl ?_); conv => whnf) | (refine And.intro (fun _ => ?_) (fun h => absurd h (by decide)); conv => whnf) | (refine And.intro (fun h => absurd h (by decide)) (fun _ => ?_); conv => whnf) | (refine .quiet (by kernel_rfl) ?_; conv => whnf))
    refine loop_up (cxOk _ _) g.length (fun _ => True) (fun k => ⟨[(4, .sl 1 encIs [] g), (6, .int .i64 g.length), (7, .own 0), (31, .int .i64 g.length), (32, .int .i64 (k : Nat))], [(0, .row 35 1 encBs [] (ldN g k))], 1⟩) trivial (by rw [ldN_zero]; exact (wk_of [(0, .id 0)] rfl ⟨.base (.tree _ _ rfl rfl), .base (.tree _ _ rfl rfl), (by first | exact .base (.own _ _ rfl) | exact .base (.nilown _ rfl) | exact .base (.trunc _ _ _ rfl)), .base (.tree _ _ rfl rfl), .base (.tree _ _ rfl rfl), trivial⟩ ⟨⟨_, rfl, .rowT 0 35 1 (.lst _) encBs [] _ rfl (by simp [Src.list, avOf1]) (encBs_cells _) (encBs_ones _) (nils_let g.length)⟩, trivial⟩)) ?_
    intro k hk _
    conv => whnf
    refine ⟨fun hc => ?_, fun hc => ?_⟩
    · have hc := of_decide_eq_true hc
      have hlt : k < g.length := by omega
      have hek : (k : Int).toNat = k := Int.toNat_natCast k
      have hsu := ldN_succ hlt
      have hll := ldN_len g k
      generalize hL : ldN g k = L at *
      generalize hL' : ldN g (k + 1) = L' at *
      conv => whnf
      repeat (first | (refine And.intro ⟨by omega, by omega⟩ ?_; conv => whnf) | (refine And.intro (by omega) (And.intro rfl ?_); conv => whnf) | (refine And.intro rfl ?_; conv => whnf) | (refine And.intro (fun _ => ⟨by omega, by omega⟩) ?_; conv => whnf) | (refine And.intro (fun _ => by omega) (And.intro rfl ?_); conv => whnf) | (refine And.intro ⟨(by first | omega | (simp; omega)), (by first | omega | (simp; omega))⟩ ?_; conv => whnf) | (refine Exists.intro _ (And.intro rfl (And.intro (by first | omega | (simp; omega)) (And.intro ⟨rfl, rfl, rfl, rfl, rfl⟩ ?_))); conv => whnf) | (refine And.intro ⟨rfl, rfl⟩ (And.intro (by first | omega | (simp; omega)) ?_); conv => whnf) | (refine Exists.intro _ (And.intro rfl ?_); conv => whnf) | (refine And.intro (fun _ => ?_) (fun h => absurd h (by decide)); conv => whnf) | (refine And.intro (fun h => absurd h (by decide)) (fun _ => ?_); conv => whnf) | (refine .eff (by first | exact cxOk _ _ | exact cxPOk _ _ _) ?_; conv => whnf))
      refine .one _ _ _ (fun _ => (reach_ok g hg (by omega) k hlt)) (by repeat (first | exact .nil | (apply BorL.cons; first | exact lS rfl | exact lR rfl | exact lM rfl rfl | exact lL rfl | exact lX rfl | exact lN | exact lNl | exact lSm rfl | exact lIm rfl | exact lP rfl | exact lQ rfl | exact lB rfl rfl rfl))) (by first | exact .inl rfl | exact .inr (by repeat (first | exact flats_nil | refine flats_cons (by first | exact flat_val _ rfl | exact flat_row (fun _ => rfl) | exact flat_lst (fun _ => rfl)) ?_))) (by first | exact .inr rfl | exact .inl rfl) ?_
      conv => whnf
      repeat (first | (refine And.intro ⟨by omega, by omega⟩ ?_; conv => whnf) | (refine And.intro (by omega) (And.intro rfl ?_); conv => whnf) | (refine And.intro rfl ?_; conv => whnf) | (refine And.intro (fun _ => ⟨by omega, by omega⟩) ?_; conv => whnf) | (refine And.intro (fun _ => by omega) (And.intro rfl ?_); conv => whnf) | (refine And.intro ⟨(by first | omega | (simp; omega)), (by first | omega | (simp; omega))⟩ ?_; conv => whnf) | (refine Exists.intro _ (And.intro rfl (And.intro (by first | omega | (simp; omega)) (And.intro ⟨rfl, rfl, rfl, rfl, rfl⟩ ?_))); conv => whnf) | (refine And.intro ⟨rfl, rfl⟩ (And.intro (by first | omega | (simp; omega)) ?_); conv => whnf) | (refine Exists.intro _ (And.intro rfl ?_); conv => whnf) | (refine And.intro (fun _ => ?_) (fun h => absurd h (by decide)); conv => whnf) | (refine And.intro (fun h => absurd h (by decide)) (fun _ => ?_); conv => whnf) | (refine .eff (by first | exact cxOk _ _ | exact cxPOk _ _ _) ?_; conv => whnf))
      refine up hlt trivial (by rw [hek]; exact (wk_of [(0, .id 0)] rfl ⟨.base (.tree _ _ rfl rfl), .base (.tree _ _ rfl rfl), (by first | exact .base (.own _ _ rfl) | exact .base (.nilown _ rfl) | exact .base (.trunc _ _ _ rfl)), .base (.tree _ _ rfl rfl), .base (.tree _ _ rfl rfl), trivial⟩ ⟨⟨_, rfl, (by first | exact .row _ _ _ _ _ _ _ rfl (hsu.symm.trans hL'.symm) | exact .lstrow _ _ _ _ _ _ _ rfl (hsu.symm.trans hL'.symm) | exact .nilrow _ _ _ _ _ (hsu.symm.trans hL'.symm) | exact .truncrow _ _ _ _ _ _ _ _ rfl (by omega) (hsu.symm.trans hL'.symm))⟩, trivial⟩))
    have hc := of_decide_eq_false hc
    obtain rfl : k = g.length := by omega
    have hMg : ∀ i, i < g.length → (ldN g g.length).getD i [] = ldL g i := fun i hi => by rw [ldN_get hi, if_pos hi]
    have hMl := ldN_len g g.length
    generalize ldN g g.length = M at *
    conv => whnf
    repeat (first | (refine And.intro ⟨by omega, by omega⟩ ?_; conv => whnf) | (refine And.intro (by omega) (And.intro rfl ?_); conv => whnf) | (refine And.intro rfl ?_; conv => whnf) | (refine And.intro (fun _ => ⟨by omega, by omega⟩) ?_; conv => whnf) | (refine And.intro (fun _ => by omega) (And.intro rfl ?_); conv => whnf) | (refine And.intro ⟨(by first | omega | (simp; omega)), (by first | omega | (simp; omega))⟩ ?_; conv => whnf) | (refine Exists.intro _ (And.intro rfl (And.intro (by first | omega | (simp; omega)) (And.intro ⟨rfl, rfl, rfl, rfl, rfl⟩ ?_))); conv => whnf) | (refine And.intro ⟨rfl, rfl⟩ (And.intro (by first | omega | (simp; omega)) ?_); conv => whnf) | (refine Exists.intro _ (And.intro rfl ?_); conv => whnf) | (refine And.intro (fun _ => ?_) (fun h => absurd h (by decide)); conv => whnf) | (refine And.intro (fun h => absurd h (by decide)) (fun _ => ?_); conv => whnf) | (refine .quiet (by kernel_rfl) ?_; conv => whnf))
    refine loop_inv (cxOk _ _) (σ := List Bool × List (List Int)) (fun s => Grp g (none0 g.length) s.2 s.1) (fun s => unmet s.1) (fun s => ⟨[(6, .int .i64 g.length), (7, .own 0), (9, .own 1), (10, .own 2), (11, .int .i64 (unmet (s.1) : Nat))], [(0, .row 35 1 encBs [] M), (1, .row 24 1 encIs [] (s.2)), (2, .row 4 1 encB false (s.1))], 3⟩) (none0 g.length, []) (.nil _) ((wk_of [(0, .id 0), (1, .nil), (2, .id 1)] rfl ⟨.base (.tree _ _ rfl rfl), (by first | exact .base (.own _ _ rfl) | exact .base (.nilown _ rfl) | exact .base (.trunc _ _ _ rfl)), (by first | exact .base (.own _ _ rfl) | exact .base (.nilown _ rfl) | exact .base (.trunc _ _ _ rfl)), (by first | exact .base (.own _ _ rfl) | exact .base (.nilown _ rfl) | exact .base (.trunc _ _ _ rfl)), .base (.tree _ _ (show AV.int .i64 _ = AV.int .i64 _ by rw [unmet0]) rfl), trivial⟩ ⟨⟨_, rfl, (by first | exact .row _ _ _ _ _ _ _ rfl rfl | exact .lstrow _ _ _ _ _ _ _ rfl rfl | exact .nilrow _ _ _ _ _ rfl | exact .truncrow _ _ _ _ _ _ _ _ rfl (by omega) rfl)⟩, ⟨_, rfl, (by first | exact .row _ _ _ _ _ _ _ rfl rfl | exact .lstrow _ _ _ _ _ _ _ rfl rfl | exact .nilrow _ _ _ _ _ rfl | exact .truncrow _ _ _ _ _ _ _ _ rfl (by omega) rfl)⟩, ⟨_, rfl, (by first | exact .row _ _ _ _ _ _ _ rfl (by unfold none0; rw [Int.toNat_natCast]; exact (List.map_replicate (f := encB)).symm) | exact .lstrow _ _ _ _ _ _ _ rfl (by unfold none0; rw [Int.toNat_natCast]; exact (List.map_replicate (f := encB)).symm) | exact .nilrow _ _ _ _ _ (by unfold none0; rw [Int.toNat_natCast]; exact (List.map_replicate (f := encB)).symm) | exact .truncrow _ _ _ _ _ _ _ _ rfl (by omega) (by unfold none0; rw [Int.toNat_natCast]; exact (List.map_replicate (f := encB)).symm))⟩, trivial⟩)) ?_
    rintro ⟨P, L⟩ hG
    show evCode _ _ (⟨[(6, .int .i64 g.length), (7, .own 0), (9, .own 1), (10, .own 2), (11, .int .i64 (unmet P : Nat))], [(0, .row 35 1 encBs [] M), (1, .row 24 1 encIs [] L), (2, .row 4 1 encB false P)], 3⟩) _
    simp only at hG
    have hP := hG.plc hg (plc0 g)
    have hPl := hP.len
    have hroom := hG.room hg (plc0 g)
    rw [unmet0] at hroom
    conv => whnf
    refine ⟨fun hc2 => ?_, fun hc2 => ?_⟩
    · have hc2 := of_decide_eq_true hc2
      obtain ⟨i0, hi0, hr0⟩ := rdy_ex hg hPl (show 0 < unmet P by omega)
      conv => whnf
      refine loop_up (cxOk _ _) g.length (fun i => ∀ j, j < i → rdy g P j = false) (fun i => ⟨[(6, .int .i64 g.length), (7, .own 0), (9, .own 1), (10, .own 2), (11, .int .i64 (unmet P : Nat)), (47, .int .i64 g.length), (48, .int .i64 (i : Nat))], [(0, .row 35 1 encBs [] M), (1, .row 24 1 encIs [] L), (2, .row 4 1 encB false P)], 3⟩) (by intro j hj; omega) ((wk_of [(0, .id 0), (1, .id 1), (2, .id 2)] rfl ⟨.base (.tree _ _ rfl rfl), (by first | exact .base (.own _ _ rfl) | exact .base (.nilown _ rfl) | exact .base (.trunc _ _ _ rfl)), (by first | exact .base (.own _ _ rfl) | exact .base (.nilown _ rfl) | exact .base (.trunc _ _ _ rfl)), (by first | exact .base (.own _ _ rfl) | exact .base (.nilown _ rfl) | exact .base (.trunc _ _ _ rfl)), .base (.tree _ _ rfl rfl), .base (.tree _ _ rfl rfl), .base (.tree _ _ rfl rfl), trivial⟩ ⟨⟨_, rfl, (by first | exact .row _ _ _ _ _ _ _ rfl rfl | exact .lstrow _ _ _ _ _ _ _ rfl rfl | exact .nilrow _ _ _ _ _ rfl | exact .truncrow _ _ _ _ _ _ _ _ rfl (by omega) rfl)⟩, ⟨_, rfl, (by first | exact .row _ _ _ _ _ _ _ rfl rfl | exact .lstrow _ _ _ _ _ _ _ rfl rfl | exact .nilrow _ _ _ _ _ rfl | exact .truncrow _ _ _ _ _ _ _ _ rfl (by omega) rfl)⟩, ⟨_, rfl, (by first | exact .row _ _ _ _ _ _ _ rfl rfl | exact .lstrow _ _ _ _ _ _ _ rfl rfl | exact .nilrow _ _ _ _ _ rfl | exact .truncrow _ _ _ _ _ _ _ _ rfl (by omega) rfl)⟩, trivial⟩)) ?_
      intro i hi hmin
      conv => whnf
      refine ⟨fun hc3 => ?_, fun hc3 => ?_⟩
      · have hc3 := of_decide_eq_true hc3
        have hlt : i < g.length := by omega
        have hei : (i : Int).toNat = i := Int.toNat_natCast i
        conv => whnf
        repeat (first | (refine And.intro ⟨by omega, by omega⟩ ?_; conv => whnf) | (refine And.intro (by omega) (And.intro rfl ?_); conv => whnf) | (refine And.intro rfl ?_; conv => whnf) | (refine And.intro (fun _ => ⟨by omega, by omega⟩) ?_; conv => whnf) | (refine And.intro (fun _ => by omega) (And.intro rfl ?_); conv => whnf) | (refine And.intro ⟨(by first | omega | (simp; omega)), (by first | omega | (simp; omega))⟩ ?_; conv => whnf) | (refine Exists.intro _ (And.intro rfl (And.intro (by first | omega | (simp; omega)) (And.intro ⟨rfl, rfl, rfl, rfl, rfl⟩ ?_))); conv => whnf) | (refine And.intro ⟨rfl, rfl⟩ (And.intro (by first | omega | (simp; omega)) ?_); conv => whnf) | (refine Exists.intro _ (And.intro rfl ?_); conv => whnf) | (refine And.intro (fun _ => ?_) (fun h => absurd h (by decide)); conv => whnf) | (refine And.intro (fun h => absurd h (by decide)) (fun _ => ?_); conv => whnf) | (refine .quiet (by kernel_rfl) ?_; conv => whnf))
        rw [hei]
        conv => whnf
        repeat (first | (refine And.intro ⟨by omega, by omega⟩ ?_; conv => whnf) | (refine And.intro (by omega) (And.intro rfl ?_); conv => whnf) | (refine And.intro rfl ?_; conv => whnf) | (refine And.intro (fun _ => ⟨by omega, by omega⟩) ?_; conv => whnf) | (refine And.intro (fun _ => by omega) (And.intro rfl ?_); conv => whnf) | (refine And.intro ⟨(by first | omega | (simp; omega)), (by first | omega | (simp; omega))⟩ ?_; conv => whnf) | (refine Exists.intro _ (And.intro rfl (And.intro (by first | omega | (simp; omega)) (And.intro ⟨rfl, rfl, rfl, rfl, rfl⟩ ?_))); conv => whnf) | (refine And.intro ⟨rfl, rfl⟩ (And.intro (by first | omega | (simp; omega)) ?_); conv => whnf) | (refine Exists.intro _ (And.intro rfl ?_); conv => whnf) | (refine And.intro (fun _ => ?_) (fun h => absurd h (by decide)); conv => whnf) | (refine And.intro (fun h => absurd h (by decide)) (fun _ => ?_); conv => whnf) | (refine .quiet (by kernel_rfl) ?_; conv => whnf))
        have hf0 : found g i 0 = [(i : Int)] := rfl
        have hfs := found_succ g i
        have hfl := found_len g i
        have hr0' : rdyN g P i 0 = !P.getD i false := rfl
        have hrs : ∀ k, rdyN g P i (k + 1) = (rdyN g P i k && okK g P i k) := fun _ => rfl
        have hLi := hMg i hlt
        generalize hW : found g i = W at *
        generalize hR : rdyN g P i = R at *
        refine loop_up (cxOk _ _) g.length (fun _ => True) (fun k => ⟨[(6, .int .i64 g.length), (7, .own 0), (9, .own 1), (10, .own 2), (11, .int .i64 (unmet P : Nat)), (12, .int .i64 (i : Nat)), (13, .own 3), (14, .bool (R k)), (47, .int .i64 g.length), (48, .int .i64 (i : Nat)), (58, .int .i64 g.length), (59, .int .i64 (k : Nat))], [(0, .row 35 1 encBs [] M), (1, .row 24 1 encIs [] L), (2, .row 4 1 encB false P), (3, .row 3 1 encI 0 (W k))], 4⟩) trivial (by rw [hf0, hr0']; exact (wk_of [(0, .id 0), (1, .id 1), (2, .id 2), (3, .id 3)] rfl ⟨.base (.tree _ _ rfl rfl), (by first | exact .base (.own _ _ rfl) | exact .base (.nilown _ rfl) | exact .base (.trunc _ _ _ rfl)), (by first | exact .base (.own _ _ rfl) | exact .base (.nilown _ rfl) | exact .base (.trunc _ _ _ rfl)), (by first | exact .base (.own _ _ rfl) | exact .base (.nilown _ rfl) | exact .base (.trunc _ _ _ rfl)), .base (.tree _ _ rfl rfl), .base (.tree _ _ rfl rfl), (by first | exact .base (.own _ _ rfl) | exact .base (.nilown _ rfl) | exact .base (.trunc _ _ _ rfl)), .base (.tree _ _ rfl rfl), .base (.tree _ _ rfl rfl), .base (.tree _ _ rfl rfl), .base (.tree _ _ rfl rfl), .base (.tree _ _ rfl rfl), trivial⟩ ⟨⟨_, rfl, (by first | exact .row _ _ _ _ _ _ _ rfl rfl | exact .lstrow _ _ _ _ _ _ _ rfl rfl | exact .nilrow _ _ _ _ _ rfl | exact .truncrow _ _ _ _ _ _ _ _ rfl (by omega) rfl)⟩, ⟨_, rfl, (by first | exact .row _ _ _ _ _ _ _ rfl rfl | exact .lstrow _ _ _ _ _ _ _ rfl rfl | exact .nilrow _ _ _ _ _ rfl | exact .truncrow _ _ _ _ _ _ _ _ rfl (by omega) rfl)⟩, ⟨_, rfl, (by first | exact .row _ _ _ _ _ _ _ rfl rfl | exact .lstrow _ _ _ _ _ _ _ rfl rfl | exact .nilrow _ _ _ _ _ rfl | exact .truncrow _ _ _ _ _ _ _ _ rfl (by omega) rfl)⟩, ⟨_, rfl, (by first | exact .row _ _ _ _ _ _ _ rfl rfl | exact .lstrow _ _ _ _ _ _ _ rfl rfl | exact .nilrow _ _ _ _ _ rfl | exact .truncrow _ _ _ _ _ _ _ _ rfl (by omega) rfl)⟩, trivial⟩)) ?_
        intro k hk _
        conv => whnf
        refine ⟨fun hd => ?_, fun hd => ?_⟩
        · have hd := of_decide_eq_true hd
          have hlk : k < g.length := by omega
          have hek : (k : Int).toNat = k := Int.toNat_natCast k
          have hLk := hMg k hlk
          have hgk1 := ldL_get (g := g) (i := i) hlk
          have hgk2 := ldL_get (g := g) (i := k) hlt
          have hlll : ∀ j, (ldL g j).length = g.length := fun j => by unfold ldL; rw [List.length_map, List.length_range]
          have hl1 := hlll i
          have hl2 := hlll k
          have hfk := hfs k
          have hrk := hrs k
          have hflk := hfl k
          conv => whnf
          repeat (first | (refine And.intro ⟨by omega, by omega⟩ ?_; conv => whnf) | (refine And.intro (by omega) (And.intro rfl ?_); conv => whnf) | (refine And.intro rfl ?_; conv => whnf) | (refine And.intro (fun _ => ⟨by omega, by omega⟩) ?_; conv => whnf) | (refine And.intro (fun _ => by omega) (And.intro rfl ?_); conv => whnf) | (refine And.intro ⟨(by first | omega | (simp; omega)), (by first | omega | (simp; omega))⟩ ?_; conv => whnf) | (refine Exists.intro _ (And.intro rfl (And.intro (by first | omega | (simp; omega)) (And.intro ⟨rfl, rfl, rfl, rfl, rfl⟩ ?_))); conv => whnf) | (refine And.intro ⟨rfl, rfl⟩ (And.intro (by first | omega | (simp; omega)) ?_); conv => whnf) | (refine Exists.intro _ (And.intro rfl ?_); conv => whnf) | (refine And.intro (fun _ => ?_) (fun h => absurd h (by decide)); conv => whnf) | (refine And.intro (fun h => absurd h (by decide)) (fun _ => ?_); conv => whnf) | (refine .quiet (by kernel_rfl) ?_; conv => whnf))
          rw [hei, hek, hLi]
          conv => whnf
          repeat (first | (refine And.intro ⟨by omega, by omega⟩ ?_; conv => whnf) | (refine And.intro (by omega) (And.intro rfl ?_); conv => whnf) | (refine And.intro rfl ?_; conv => whnf) | (refine And.intro (fun _ => ⟨by omega, by omega⟩) ?_; conv => whnf) | (refine And.intro (fun _ => by omega) (And.intro rfl ?_); conv => whnf) | (refine And.intro ⟨(by first | omega | (simp; omega)), (by first | omega | (simp; omega))⟩ ?_; conv => whnf) | (refine Exists.intro _ (And.intro rfl (And.intro (by first | omega | (simp; omega)) (And.intro ⟨rfl, rfl, rfl, rfl, rfl⟩ ?_))); conv => whnf) | (refine And.intro ⟨rfl, rfl⟩ (And.intro (by first | omega | (simp; omega)) ?_); conv => whnf) | (refine Exists.intro _ (And.intro rfl ?_); conv => whnf) | (refine And.intro (fun _ => ?_) (fun h => absurd h (by decide)); conv => whnf) | (refine And.intro (fun h => absurd h (by decide)) (fun _ => ?_); conv => whnf) | (refine .quiet (by kernel_rfl) ?_; conv => whnf))
          rw [hek, hgk1]
          conv => whnf
          repeat (first | (refine And.intro ⟨by omega, by omega⟩ ?_; conv => whnf) | (refine And.intro (by omega) (And.intro rfl ?_); conv => whnf) | (refine And.intro rfl ?_; conv => whnf) | (refine And.intro (fun _ => ⟨by omega, by omega⟩) ?_; conv => whnf) | (refine And.intro (fun _ => by omega) (And.intro rfl ?_); conv => whnf) | (refine And.intro ⟨(by first | omega | (simp; omega)), (by first | omega | (simp; omega))⟩ ?_; conv => whnf) | (refine Exists.intro _ (And.intro rfl (And.intro (by first | omega | (simp; omega)) (And.intro ⟨rfl, rfl, rfl, rfl, rfl⟩ ?_))); conv => whnf) | (refine And.intro ⟨rfl, rfl⟩ (And.intro (by first | omega | (simp; omega)) ?_); conv => whnf) | (refine Exists.intro _ (And.intro rfl ?_); conv => whnf) | (refine And.intro (fun _ => ?_) (fun h => absurd h (by decide)); conv => whnf) | (refine And.intro (fun h => absurd h (by decide)) (fun _ => ?_); conv => whnf) | (refine .quiet (by kernel_rfl) ?_; conv => whnf))
          rw [hLk]
          conv => whnf
          repeat (first | (refine And.intro ⟨by omega, by omega⟩ ?_; conv => whnf) | (refine And.intro (by omega) (And.intro rfl ?_); conv => whnf) | (refine And.intro rfl ?_; conv => whnf) | (refine And.intro (fun _ => ⟨by omega, by omega⟩) ?_; conv => whnf) | (refine And.intro (fun _ => by omega) (And.intro rfl ?_); conv => whnf) | (refine And.intro ⟨(by first | omega | (simp; omega)), (by first | omega | (simp; omega))⟩ ?_; conv => whnf) | (refine Exists.intro _ (And.intro rfl (And.intro (by first | omega | (simp; omega)) (And.intro ⟨rfl, rfl, rfl, rfl, rfl⟩ ?_))); conv => whnf) | (refine And.intro ⟨rfl, rfl⟩ (And.intro (by first | omega | (simp; omega)) ?_); conv => whnf) | (refine Exists.intro _ (And.intro rfl ?_); conv => whnf) | (refine And.intro (fun _ => ?_) (fun h => absurd h (by decide)); conv => whnf) | (refine And.intro (fun h => absurd h (by decide)) (fun _ => ?_); conv => whnf) | (refine .quiet (by kernel_rfl) ?_; conv => whnf))
          rw [hei, hgk2]
          conv => whnf
          repeat (first | (refine And.intro ⟨by omega, by omega⟩ ?_; conv => whnf) | (refine And.intro (by omega) (And.intro rfl ?_); conv => whnf) | (refine And.intro rfl ?_; conv => whnf) | (refine And.intro (fun _ => ⟨by omega, by omega⟩) ?_; conv => whnf) | (refine And.intro (fun _ => by omega) (And.intro rfl ?_); conv => whnf) | (refine And.intro ⟨(by first | omega | (simp; omega)), (by first | omega | (simp; omega))⟩ ?_; conv => whnf) | (refine Exists.intro _ (And.intro rfl (And.intro (by first | omega | (simp; omega)) (And.intro ⟨rfl, rfl, rfl, rfl, rfl⟩ ?_))); conv => whnf) | (refine And.intro ⟨rfl, rfl⟩ (And.intro (by first | omega | (simp; omega)) ?_); conv => whnf) | (refine Exists.intro _ (And.intro rfl ?_); conv => whnf) | (refine And.intro (fun _ => ?_) (fun h => absurd h (by decide)); conv => whnf) | (refine And.intro (fun h => absurd h (by decide)) (fun _ => ?_); conv => whnf) | (refine .quiet (by kernel_rfl) ?_; conv => whnf))
          have hbe : (ldB g i k && ldB g k i && !decide ((i : Int) = (k : Int))) = both g i k := by
            unfold both
            rw [show decide ((i : Int) = (k : Int)) = decide (i = k) by by_cases e : i = k <;> simp [e] <;> omega]
          have hke : decide ((k : Int) = (i : Int)) = decide (k = i) := by by_cases e : k = i <;> simp [e] <;> omega
          have hok : okK g P i k = (both g i k || decide (k = i) || P.getD k false || !ldB g i k) := rfl
          rw [hbe]
          generalize both g i k = b at *
          refine ⟨fun hb => ?_, fun hb => ?_⟩
          · subst hb
            conv => whnf
            repeat (first | (refine And.intro ⟨by omega, by omega⟩ ?_; conv => whnf) | (refine And.intro (by omega) (And.intro rfl ?_); conv => whnf) | (refine And.intro rfl ?_; conv => whnf) | (refine And.intro (fun _ => ⟨by omega, by omega⟩) ?_; conv => whnf) | (refine And.intro (fun _ => by omega) (And.intro rfl ?_); conv => whnf) | (refine And.intro ⟨(by first | omega | (simp; omega)), (by first | omega | (simp; omega))⟩ ?_; conv => whnf) | (refine Exists.intro _ (And.intro rfl (And.intro (by first | omega | (simp; omega)) (And.intro ⟨rfl, rfl, rfl, rfl, rfl⟩ ?_))); conv => whnf) | (refine And.intro ⟨rfl, rfl⟩ (And.intro (by first | omega | (simp; omega)) ?_); conv => whnf) | (refine Exists.intro _ (And.intro rfl ?_); conv => whnf) | (refine And.intro (fun _ => ?_) (fun h => absurd h (by decide)); conv => whnf) | (refine And.intro (fun h => absurd h (by decide)) (fun _ => ?_); conv => whnf) | (refine .quiet (by kernel_rfl) ?_; conv => whnf))
            refine And.intro ⟨rfl, rfl⟩ (And.intro (show ((W k).length + 1) * 8 ≤ 140737488355328 by omega) ?_)
            conv => whnf
            refine ⟨(k : Int), rfl, ?_⟩
            conv => whnf
            repeat (first | (refine And.intro ⟨by omega, by omega⟩ ?_; conv => whnf) | (refine And.intro (by omega) (And.intro rfl ?_); conv => whnf) | (refine And.intro rfl ?_; conv => whnf) | (refine And.intro (fun _ => ⟨by omega, by omega⟩) ?_; conv => whnf) | (refine And.intro (fun _ => by omega) (And.intro rfl ?_); conv => whnf) | (refine And.intro ⟨(by first | omega | (simp; omega)), (by first | omega | (simp; omega))⟩ ?_; conv => whnf) | (refine Exists.intro _ (And.intro rfl (And.intro (by first | omega | (simp; omega)) (And.intro ⟨rfl, rfl, rfl, rfl, rfl⟩ ?_))); conv => whnf) | (refine And.intro ⟨rfl, rfl⟩ (And.intro (by first | omega | (simp; omega)) ?_); conv => whnf) | (refine Exists.intro _ (And.intro rfl ?_); conv => whnf) | (refine And.intro (fun _ => ?_) (fun h => absurd h (by decide)); conv => whnf) | (refine And.intro (fun h => absurd h (by decide)) (fun _ => ?_); conv => whnf) | (refine .quiet (by kernel_rfl) ?_; conv => whnf))
            rw [hei, hLi]
            conv => whnf
            repeat (first | (refine And.intro ⟨by omega, by omega⟩ ?_; conv => whnf) | (refine And.intro (by omega) (And.intro rfl ?_); conv => whnf) | (refine And.intro rfl ?_; conv => whnf) | (refine And.intro (fun _ => ⟨by omega, by omega⟩) ?_; conv => whnf) | (refine And.intro (fun _ => by omega) (And.intro rfl ?_); conv => whnf) | (refine And.intro ⟨(by first | omega | (simp; omega)), (by first | omega | (simp; omega))⟩ ?_; conv => whnf) | (refine Exists.intro _ (And.intro rfl (And.intro (by first | omega | (simp; omega)) (And.intro ⟨rfl, rfl, rfl, rfl, rfl⟩ ?_))); conv => whnf) | (refine And.intro ⟨rfl, rfl⟩ (And.intro (by first | omega | (simp; omega)) ?_); conv => whnf) | (refine Exists.intro _ (And.intro rfl ?_); conv => whnf) | (refine And.intro (fun _ => ?_) (fun h => absurd h (by decide)); conv => whnf) | (refine And.intro (fun h => absurd h (by decide)) (fun _ => ?_); conv => whnf) | (refine .quiet (by kernel_rfl) ?_; conv => whnf))
            rw [hek, hgk1]
            conv => whnf
            repeat (first | (refine And.intro ⟨by omega, by omega⟩ ?_; conv => whnf) | (refine And.intro (by omega) (And.intro rfl ?_); conv => whnf) | (refine And.intro rfl ?_; conv => whnf) | (refine And.intro (fun _ => ⟨by omega, by omega⟩) ?_; conv => whnf) | (refine And.intro (fun _ => by omega) (And.intro rfl ?_); conv => whnf) | (refine And.intro ⟨(by first | omega | (simp; omega)), (by first | omega | (simp; omega))⟩ ?_; conv => whnf) | (refine Exists.intro _ (And.intro rfl (And.intro (by first | omega | (simp; omega)) (And.intro ⟨rfl, rfl, rfl, rfl, rfl⟩ ?_))); conv => whnf) | (refine And.intro ⟨rfl, rfl⟩ (And.intro (by first | omega | (simp; omega)) ?_); conv => whnf) | (refine Exists.intro _ (And.intro rfl ?_); conv => whnf) | (refine And.intro (fun _ => ?_) (fun h => absurd h (by decide)); conv => whnf) | (refine And.intro (fun h => absurd h (by decide)) (fun _ => ?_); conv => whnf) | (refine .quiet (by kernel_rfl) ?_; conv => whnf))
            refine up hlk trivial ((wk_of [(0, .id 0), (1, .id 1), (2, .id 2), (3, .id 5)] rfl ⟨.base (.tree _ _ rfl rfl), (by first | exact .base (.own _ _ rfl) | exact .base (.nilown _ rfl) | exact .base (.trunc _ _ _ rfl)), (by first | exact .base (.own _ _ rfl) | exact .base (.nilown _ rfl) | exact .base (.trunc _ _ _ rfl)), (by first | exact .base (.own _ _ rfl) | exact .base (.nilown _ rfl) | exact .base (.trunc _ _ _ rfl)), .base (.tree _ _ rfl rfl), .base (.tree _ _ rfl rfl), (by first | exact .base (.own _ _ rfl) | exact .base (.nilown _ rfl) | exact .base (.trunc _ _ _ rfl)), .base (.tree _ _ (show AV.bool _ = AV.bool _ by rw [hrk, hok, hke]) rfl), .base (.tree _ _ rfl rfl), .base (.tree _ _ rfl rfl), .base (.tree _ _ rfl rfl), .base (.tree _ _ rfl rfl), trivial⟩ ⟨⟨_, rfl, (by first | exact .row _ _ _ _ _ _ _ rfl rfl | exact .lstrow _ _ _ _ _ _ _ rfl rfl | exact .nilrow _ _ _ _ _ rfl | exact .truncrow _ _ _ _ _ _ _ _ rfl (by omega) rfl)⟩, ⟨_, rfl, (by first | exact .row _ _ _ _ _ _ _ rfl rfl | exact .lstrow _ _ _ _ _ _ _ rfl rfl | exact .nilrow _ _ _ _ _ rfl | exact .truncrow _ _ _ _ _ _ _ _ rfl (by omega) rfl)⟩, ⟨_, rfl, (by first | exact .row _ _ _ _ _ _ _ rfl rfl | exact .lstrow _ _ _ _ _ _ _ rfl rfl | exact .nilrow _ _ _ _ _ rfl | exact .truncrow _ _ _ _ _ _ _ _ rfl (by omega) rfl)⟩, ⟨_, rfl, (by first | exact .row _ _ _ _ _ _ _ rfl (by rw [hfk, if_pos rfl]) | exact .lstrow _ _ _ _ _ _ _ rfl (by rw [hfk, if_pos rfl]) | exact .nilrow _ _ _ _ _ (by rw [hfk, if_pos rfl]) | exact .truncrow _ _ _ _ _ _ _ _ rfl (by omega) (by rw [hfk, if_pos rfl]))⟩, trivial⟩))
          · subst hb
            conv => whnf
            repeat (first | (refine And.intro ⟨by omega, by omega⟩ ?_; conv => whnf) | (refine And.intro (by omega) (And.intro rfl ?_); conv => whnf) | (refine And.intro rfl ?_; conv => whnf) | (refine And.intro (fun _ => ⟨by omega, by omega⟩) ?_; conv => whnf) | (refine And.intro (fun _ => by omega) (And.intro rfl ?_); conv => whnf) | (refine And.intro ⟨(by first | omega | (simp; omega)), (by first | omega | (simp; omega))⟩ ?_; conv => whnf) | (refine Exists.intro _ (And.intro rfl (And.intro (by first | omega | (simp; omega)) (And.intro ⟨rfl, rfl, rfl, rfl, rfl⟩ ?_))); conv => whnf) | (refine And.intro ⟨rfl, rfl⟩ (And.intro (by first | omega | (simp; omega)) ?_); conv => whnf) | (refine Exists.intro _ (And.intro rfl ?_); conv => whnf) | (refine And.intro (fun _ => ?_) (fun h => absurd h (by decide)); conv => whnf) | (refine And.intro (fun h => absurd h (by decide)) (fun _ => ?_); conv => whnf) | (refine .quiet (by kernel_rfl) ?_; conv => whnf))
            rw [hei, hLi]
            conv => whnf
            repeat (first | (refine And.intro ⟨by omega, by omega⟩ ?_; conv => whnf) | (refine And.intro (by omega) (And.intro rfl ?_); conv => whnf) | (refine And.intro rfl ?_; conv => whnf) | (refine And.intro (fun _ => ⟨by omega, by omega⟩) ?_; conv => whnf) | (refine And.intro (fun _ => by omega) (And.intro rfl ?_); conv => whnf) | (refine And.intro ⟨(by first | omega | (simp; omega)), (by first | omega | (simp; omega))⟩ ?_; conv => whnf) | (refine Exists.intro _ (And.intro rfl (And.intro (by first | omega | (simp; omega)) (And.intro ⟨rfl, rfl, rfl, rfl, rfl⟩ ?_))); conv => whnf) | (refine And.intro ⟨rfl, rfl⟩ (And.intro (by first | omega | (simp; omega)) ?_); conv => whnf) | (refine Exists.intro _ (And.intro rfl ?_); conv => whnf) | (refine And.intro (fun _ => ?_) (fun h => absurd h (by decide)); conv => whnf) | (refine And.intro (fun h => absurd h (by decide)) (fun _ => ?_); conv => whnf) | (refine .quiet (by kernel_rfl) ?_; conv => whnf))
            rw [hek, hgk1]
            conv => whnf
            repeat (first | (refine And.intro ⟨by omega, by omega⟩ ?_; conv => whnf) | (refine And.intro (by omega) (And.intro rfl ?_); conv => whnf) | (refine And.intro rfl ?_; conv => whnf) | (refine And.intro (fun _ => ⟨by omega, by omega⟩) ?_; conv => whnf) | (refine And.intro (fun _ => by omega) (And.intro rfl ?_); conv => whnf) | (refine And.intro ⟨(by first | omega | (simp; omega)), (by first | omega | (simp; omega))⟩ ?_; conv => whnf) | (refine Exists.intro _ (And.intro rfl (And.intro (by first | omega | (simp; omega)) (And.intro ⟨rfl, rfl, rfl, rfl, rfl⟩ ?_))); conv => whnf) | (refine And.intro ⟨rfl, rfl⟩ (And.intro (by first | omega | (simp; omega)) ?_); conv => whnf) | (refine Exists.intro _ (And.intro rfl ?_); conv => whnf) | (refine And.intro (fun _ => ?_) (fun h => absurd h (by decide)); conv => whnf) | (refine And.intro (fun h => absurd h (by decide)) (fun _ => ?_); conv => whnf) | (refine .quiet (by kernel_rfl) ?_; conv => whnf))
            refine up hlk trivial ((wk_of [(0, .id 0), (1, .id 1), (2, .id 2), (3, .id 3)] rfl ⟨.base (.tree _ _ rfl rfl), (by first | exact .base (.own _ _ rfl) | exact .base (.nilown _ rfl) | exact .base (.trunc _ _ _ rfl)), (by first | exact .base (.own _ _ rfl) | exact .base (.nilown _ rfl) | exact .base (.trunc _ _ _ rfl)), (by first | exact .base (.own _ _ rfl) | exact .base (.nilown _ rfl) | exact .base (.trunc _ _ _ rfl)), .base (.tree _ _ rfl rfl), .base (.tree _ _ rfl rfl), (by first | exact .base (.own _ _ rfl) | exact .base (.nilown _ rfl) | exact .base (.trunc _ _ _ rfl)), .base (.tree _ _ (show AV.bool _ = AV.bool _ by rw [hrk, hok, hke]) rfl), .base (.tree _ _ rfl rfl), .base (.tree _ _ rfl rfl), .base (.tree _ _ rfl rfl), .base (.tree _ _ rfl rfl), trivial⟩ ⟨⟨_, rfl, (by first | exact .row _ _ _ _ _ _ _ rfl rfl | exact .lstrow _ _ _ _ _ _ _ rfl rfl | exact .nilrow _ _ _ _ _ rfl | exact .truncrow _ _ _ _ _ _ _ _ rfl (by omega) rfl)⟩, ⟨_, rfl, (by first | exact .row _ _ _ _ _ _ _ rfl rfl | exact .lstrow _ _ _ _ _ _ _ rfl rfl | exact .nilrow _ _ _ _ _ rfl | exact .truncrow _ _ _ _ _ _ _ _ rfl (by omega) rfl)⟩, ⟨_, rfl, (by first | exact .row _ _ _ _ _ _ _ rfl rfl | exact .lstrow _ _ _ _ _ _ _ rfl rfl | exact .nilrow _ _ _ _ _ rfl | exact .truncrow _ _ _ _ _ _ _ _ rfl (by omega) rfl)⟩, ⟨_, rfl, (by first | exact .row _ _ _ _ _ _ _ rfl (by rw [hfk, if_neg (by decide)]) | exact .lstrow _ _ _ _ _ _ _ rfl (by rw [hfk, if_neg (by decide)]) | exact .nilrow _ _ _ _ _ (by rw [hfk, if_neg (by decide)]) | exact .truncrow _ _ _ _ _ _ _ _ rfl (by omega) (by rw [hfk, if_neg (by decide)]))⟩, trivial⟩))
        · have hd := of_decide_eq_false hd
          obtain rfl : k = g.length := by omega
          have hrn : R g.length = rdy g P i := by rw [← hR]; rfl
          have hso := found_sort hlt
          rw [hW] at hso
          have hfn := hfl g.length
          rw [hrn]
          conv => whnf
          refine ⟨fun hr => ?_, fun hr => ?_⟩
          · have hr : rdy g P i = false := by simpa using hr
            conv => whnf
            repeat (first | (refine And.intro ⟨by omega, by omega⟩ ?_; conv => whnf) | (refine And.intro (by omega) (And.intro rfl ?_); conv => whnf) | (refine And.intro rfl ?_; conv => whnf) | (refine And.intro (fun _ => ⟨by omega, by omega⟩) ?_; conv => whnf) | (refine And.intro (fun _ => by omega) (And.intro rfl ?_); conv => whnf) | (refine And.intro ⟨(by first | omega | (simp; omega)), (by first | omega | (simp; omega))⟩ ?_; conv => whnf) | (refine Exists.intro _ (And.intro rfl (And.intro (by first | omega | (simp; omega)) (And.intro ⟨rfl, rfl, rfl, rfl, rfl⟩ ?_))); conv => whnf) | (refine And.intro ⟨rfl, rfl⟩ (And.intro (by first | omega | (simp; omega)) ?_); conv => whnf) | (refine Exists.intro _ (And.intro rfl ?_); conv => whnf) | (refine And.intro (fun _ => ?_) (fun h => absurd h (by decide)); conv => whnf) | (refine And.intro (fun h => absurd h (by decide)) (fun _ => ?_); conv => whnf) | (refine .quiet (by kernel_rfl) ?_; conv => whnf))
            refine up hlt (fun j hj => ?_) ((wk_of [(0, .id 0), (1, .id 1), (2, .id 2)] rfl ⟨.base (.tree _ _ rfl rfl), (by first | exact .base (.own _ _ rfl) | exact .base (.nilown _ rfl) | exact .base (.trunc _ _ _ rfl)), (by first | exact .base (.own _ _ rfl) | exact .base (.nilown _ rfl) | exact .base (.trunc _ _ _ rfl)), (by first | exact .base (.own _ _ rfl) | exact .base (.nilown _ rfl) | exact .base (.trunc _ _ _ rfl)), .base (.tree _ _ rfl rfl), .base (.tree _ _ rfl rfl), .base (.tree _ _ rfl rfl), trivial⟩ ⟨⟨_, rfl, (by first | exact .row _ _ _ _ _ _ _ rfl rfl | exact .lstrow _ _ _ _ _ _ _ rfl rfl | exact .nilrow _ _ _ _ _ rfl | exact .truncrow _ _ _ _ _ _ _ _ rfl (by omega) rfl)⟩, ⟨_, rfl, (by first | exact .row _ _ _ _ _ _ _ rfl rfl | exact .lstrow _ _ _ _ _ _ _ rfl rfl | exact .nilrow _ _ _ _ _ rfl | exact .truncrow _ _ _ _ _ _ _ _ rfl (by omega) rfl)⟩, ⟨_, rfl, (by first | exact .row _ _ _ _ _ _ _ rfl rfl | exact .lstrow _ _ _ _ _ _ _ rfl rfl | exact .nilrow _ _ _ _ _ rfl | exact .truncrow _ _ _ _ _ _ _ _ rfl (by omega) rfl)⟩, trivial⟩))
            by_cases e : j = i
            · subst e; exact hr
            · exact hmin j (by omega)
          · have hr : rdy g P i = true := by simpa using hr
            have hfree := cls_free hP ((rdy_iff hg).1 hr).1
            have hun := putL_unmet hfree (List.nodup_iff_pairwise_ne.2 ((cls_asc g i).imp fun h => by omega))
            have hG' := hG.snoc hlt hr hmin
            have hcp : 0 < (cls g i).length := List.length_pos_of_mem (cls_mem.2 ⟨hlt, .inl rfl⟩)
            generalize cls g i = c at *
            have hcl : (cs c).length = c.length := by unfold cs; rw [List.length_map]
            conv => whnf
            refine .raw _ _ rfl (fun h => by cases h) (sort_c rfl (by omega)) ?_
            rintro r rfl
            refine ⟨Nat.le_refl _, ?_⟩
            conv => whnf
            rw [hso]
            conv => whnf
            repeat (first | (refine And.intro ⟨by omega, by omega⟩ ?_; conv => whnf) | (refine And.intro (by omega) (And.intro rfl ?_); conv => whnf) | (refine And.intro rfl ?_; conv => whnf) | (refine And.intro (fun _ => ⟨by omega, by omega⟩) ?_; conv => whnf) | (refine And.intro (fun _ => by omega) (And.intro rfl ?_); conv => whnf) | (refine And.intro ⟨(by first | omega | (simp; omega)), (by first | omega | (simp; omega))⟩ ?_; conv => whnf) | (refine Exists.intro _ (And.intro rfl (And.intro (by first | omega | (simp; omega)) (And.intro ⟨rfl, rfl, rfl, rfl, rfl⟩ ?_))); conv => whnf) | (refine And.intro ⟨rfl, rfl⟩ (And.intro (by first | omega | (simp; omega)) ?_); conv => whnf) | (refine Exists.intro _ (And.intro rfl ?_); conv => whnf) | (refine And.intro (fun _ => ?_) (fun h => absurd h (by decide)); conv => whnf) | (refine And.intro (fun h => absurd h (by decide)) (fun _ => ?_); conv => whnf) | (refine .quiet (by kernel_rfl) ?_; conv => whnf))
            have hci : ∀ m, m < c.length → (cs c).getD m 0 = ((c.getD m 0 : Nat) : Int) := fun m hm => by
              unfold cs
              rw [List.getD_eq_getElem?_getD, List.getElem?_map, List.getD_eq_getElem?_getD, List.getElem?_eq_getElem hm]
              rfl
            have hpt : ∀ m, m < c.length → putL P (c.take (m + 1)) = (putL P (c.take m)).set (c.getD m 0) true := fun m hm => by
              rw [take_getD (d := 0) hm, putL_snoc]
            have hpz : putL P (c.take 0) = P := rfl
            have hpn : putL P (c.take c.length) = putL P c := by rw [List.take_length]
            have hpl : ∀ m, (putL P (c.take m)).length = g.length := fun m => by rw [putL_len, hPl]
            have hcm : ∀ m, m < c.length → c.getD m 0 < g.length := fun m hm => by
              have := (hfree _ (getD_mem (d := 0) hm)).1
              omega
            generalize hPP : (fun m => putL P (c.take m)) = PP at *
            have hPP : ∀ m, putL P (c.take m) = PP m := fun m => by rw [← hPP]
            simp only [hPP] at hpt hpz hpn hpl
            generalize hcc : cs c = C at *
            refine loop_up (cxOk _ _) C.length (fun _ => True) (fun m => ⟨[(6, .int .i64 g.length), (7, .own 0), (9, .own 1), (10, .own 2), (11, .int .i64 (unmet P : Nat)), (13, .sl 1 encI 0 C), (118, .sl 1 encI 0 C), (119, .int .i64 (C.length : Nat)), (120, .int .i64 (m : Nat))], [(0, .row 35 1 encBs [] M), (1, .row 24 1 encIs [] L), (2, .row 4 1 encB false (PP m))], 3⟩) trivial (by rw [hpz]; exact (wk_frz [3]).trans (wk_of [(0, .id 0), (1, .id 1), (2, .id 2)] rfl ⟨.base (.tree _ _ rfl rfl), (by first | exact .base (.own _ _ rfl) | exact .base (.nilown _ rfl) | exact .base (.trunc _ _ _ rfl)), (by first | exact .base (.own _ _ rfl) | exact .base (.nilown _ rfl) | exact .base (.trunc _ _ _ rfl)), (by first | exact .base (.own _ _ rfl) | exact .base (.nilown _ rfl) | exact .base (.trunc _ _ _ rfl)), .base (.tree _ _ rfl rfl), .base (.tree _ _ rfl rfl), .base (.tree _ _ rfl rfl), .base (.tree _ _ rfl rfl), .base (.tree _ _ rfl rfl), trivial⟩ ⟨⟨_, rfl, (by first | exact .row _ _ _ _ _ _ _ rfl rfl | exact .lstrow _ _ _ _ _ _ _ rfl rfl | exact .nilrow _ _ _ _ _ rfl | exact .truncrow _ _ _ _ _ _ _ _ rfl (by omega) rfl)⟩, ⟨_, rfl, (by first | exact .row _ _ _ _ _ _ _ rfl rfl | exact .lstrow _ _ _ _ _ _ _ rfl rfl | exact .nilrow _ _ _ _ _ rfl | exact .truncrow _ _ _ _ _ _ _ _ rfl (by omega) rfl)⟩, ⟨_, rfl, (by first | exact .row _ _ _ _ _ _ _ rfl rfl | exact .lstrow _ _ _ _ _ _ _ rfl rfl | exact .nilrow _ _ _ _ _ rfl | exact .truncrow _ _ _ _ _ _ _ _ rfl (by omega) rfl)⟩, trivial⟩)) ?_
            intro m hm _
            conv => whnf
            refine ⟨fun hd3 => ?_, fun hd3 => ?_⟩
            · have hd3 := of_decide_eq_true hd3
              have hlm : m < c.length := by omega
              have hem : (m : Int).toNat = m := Int.toNat_natCast m
              have hcim := hci m hlm
              have hcmm := hcm m hlm
              have hplm := hpl m
              have hpm := hpt m hlm
              have hec : ((c.getD m 0 : Nat) : Int).toNat = c.getD m 0 := Int.toNat_natCast _
              generalize c.getD m 0 = v at *
              conv => whnf
              repeat (first | (refine And.intro ⟨by omega, by omega⟩ ?_; conv => whnf) | (refine And.intro (by omega) (And.intro rfl ?_); conv => whnf) | (refine And.intro rfl ?_; conv => whnf) | (refine And.intro (fun _ => ⟨by omega, by omega⟩) ?_; conv => whnf) | (refine And.intro (fun _ => by omega) (And.intro rfl ?_); conv => whnf) | (refine And.intro ⟨(by first | omega | (simp; omega)), (by first | omega | (simp; omega))⟩ ?_; conv => whnf) | (refine Exists.intro _ (And.intro rfl (And.intro (by first | omega | (simp; omega)) (And.intro ⟨rfl, rfl, rfl, rfl, rfl⟩ ?_))); conv => whnf) | (refine And.intro ⟨rfl, rfl⟩ (And.intro (by first | omega | (simp; omega)) ?_); conv => whnf) | (refine Exists.intro _ (And.intro rfl ?_); conv => whnf) | (refine And.intro (fun _ => ?_) (fun h => absurd h (by decide)); conv => whnf) | (refine And.intro (fun h => absurd h (by decide)) (fun _ => ?_); conv => whnf) | (refine .quiet (by kernel_rfl) ?_; conv => whnf))
              rw [hem, hcim]
              conv => whnf
              repeat (first | (refine And.intro ⟨by omega, by omega⟩ ?_; conv => whnf) | (refine And.intro (by omega) (And.intro rfl ?_); conv => whnf) | (refine And.intro rfl ?_; conv => whnf) | (refine And.intro (fun _ => ⟨by omega, by omega⟩) ?_; conv => whnf) | (refine And.intro (fun _ => by omega) (And.intro rfl ?_); conv => whnf) | (refine And.intro ⟨(by first | omega | (simp; omega)), (by first | omega | (simp; omega))⟩ ?_; conv => whnf) | (refine Exists.intro _ (And.intro rfl (And.intro (by first | omega | (simp; omega)) (And.intro ⟨rfl, rfl, rfl, rfl, rfl⟩ ?_))); conv => whnf) | (refine And.intro ⟨rfl, rfl⟩ (And.intro (by first | omega | (simp; omega)) ?_); conv => whnf) | (refine Exists.intro _ (And.intro rfl ?_); conv => whnf) | (refine And.intro (fun _ => ?_) (fun h => absurd h (by decide)); conv => whnf) | (refine And.intro (fun h => absurd h (by decide)) (fun _ => ?_); conv => whnf) | (refine .eff (by first | exact cxOk _ _ | exact cxPOk _ _ _) ?_; conv => whnf))
              rw [hec]
              refine up (show m < C.length by omega) trivial ((wk_of [(0, .id 0), (1, .id 1), (2, .id 2)] rfl ⟨.base (.tree _ _ rfl rfl), (by first | exact .base (.own _ _ rfl) | exact .base (.nilown _ rfl) | exact .base (.trunc _ _ _ rfl)), (by first | exact .base (.own _ _ rfl) | exact .base (.nilown _ rfl) | exact .base (.trunc _ _ _ rfl)), (by first | exact .base (.own _ _ rfl) | exact .base (.nilown _ rfl) | exact .base (.trunc _ _ _ rfl)), .base (.tree _ _ rfl rfl), .base (.tree _ _ rfl rfl), .base (.tree _ _ rfl rfl), .base (.tree _ _ rfl rfl), .base (.tree _ _ rfl rfl), trivial⟩ ⟨⟨_, rfl, (by first | exact .row _ _ _ _ _ _ _ rfl rfl | exact .lstrow _ _ _ _ _ _ _ rfl rfl | exact .nilrow _ _ _ _ _ rfl | exact .truncrow _ _ _ _ _ _ _ _ rfl (by omega) rfl)⟩, ⟨_, rfl, (by first | exact .row _ _ _ _ _ _ _ rfl rfl | exact .lstrow _ _ _ _ _ _ _ rfl rfl | exact .nilrow _ _ _ _ _ rfl | exact .truncrow _ _ _ _ _ _ _ _ rfl (by omega) rfl)⟩, ⟨_, rfl, (by first | exact .row _ _ _ _ _ _ _ rfl (hpm.symm) | exact .lstrow _ _ _ _ _ _ _ rfl (hpm.symm) | exact .nilrow _ _ _ _ _ (hpm.symm) | exact .truncrow _ _ _ _ _ _ _ _ rfl (by omega) (hpm.symm))⟩, trivial⟩))
            · have hd3 := of_decide_eq_false hd3
              have hmc : m = c.length := by omega
              subst hmc
              conv => whnf
              repeat (first | (refine And.intro ⟨by omega, by omega⟩ ?_; conv => whnf) | (refine And.intro (by omega) (And.intro rfl ?_); conv => whnf) | (refine And.intro rfl ?_; conv => whnf) | (refine And.intro (fun _ => ⟨by omega, by omega⟩) ?_; conv => whnf) | (refine And.intro (fun _ => by omega) (And.intro rfl ?_); conv => whnf) | (refine And.intro ⟨(by first | omega | (simp; omega)), (by first | omega | (simp; omega))⟩ ?_; conv => whnf) | (refine Exists.intro _ (And.intro rfl (And.intro (by first | omega | (simp; omega)) (And.intro ⟨rfl, rfl, rfl, rfl, rfl⟩ ?_))); conv => whnf) | (refine And.intro ⟨rfl, rfl⟩ (And.intro (by first | omega | (simp; omega)) ?_); conv => whnf) | (refine Exists.intro _ (And.intro rfl ?_); conv => whnf) | (refine And.intro (fun _ => ?_) (fun h => absurd h (by decide)); conv => whnf) | (refine And.intro (fun h => absurd h (by decide)) (fun _ => ?_); conv => whnf) | (refine .quiet (by kernel_rfl) ?_; conv => whnf))
              refine ⟨⟨rfl, rfl⟩, (show (L.length + 1) * 24 ≤ 140737488355328 by omega), ?_⟩
              conv => whnf
              refine ⟨C, rfl, ?_⟩
              conv => whnf
              repeat (first | (refine And.intro ⟨by omega, by omega⟩ ?_; conv => whnf) | (refine And.intro (by omega) (And.intro rfl ?_); conv => whnf) | (refine And.intro rfl ?_; conv => whnf) | (refine And.intro (fun _ => ⟨by omega, by omega⟩) ?_; conv => whnf) | (refine And.intro (fun _ => by omega) (And.intro rfl ?_); conv => whnf) | (refine And.intro ⟨(by first | omega | (simp; omega)), (by first | omega | (simp; omega))⟩ ?_; conv => whnf) | (refine Exists.intro _ (And.intro rfl (And.intro (by first | omega | (simp; omega)) (And.intro ⟨rfl, rfl, rfl, rfl, rfl⟩ ?_))); conv => whnf) | (refine And.intro ⟨rfl, rfl⟩ (And.intro (by first | omega | (simp; omega)) ?_); conv => whnf) | (refine Exists.intro _ (And.intro rfl ?_); conv => whnf) | (refine And.intro (fun _ => ?_) (fun h => absurd h (by decide)); conv => whnf) | (refine And.intro (fun h => absurd h (by decide)) (fun _ => ?_); conv => whnf) | (refine .quiet (by kernel_rfl) ?_; conv => whnf))
              refine ⟨(putL P c, L ++ [C]), hG', by show unmet (putL P c) < unmet P; omega, (wk_of [(0, .id 0), (1, .id 4), (2, .id 2)] rfl ⟨.base (.tree _ _ rfl rfl), (by first | exact .base (.own _ _ rfl) | exact .base (.nilown _ rfl) | exact .base (.trunc _ _ _ rfl)), (by first | exact .base (.own _ _ rfl) | exact .base (.nilown _ rfl) | exact .base (.trunc _ _ _ rfl)), (by first | exact .base (.own _ _ rfl) | exact .base (.nilown _ rfl) | exact .base (.trunc _ _ _ rfl)), .base (.tree _ _ (show AV.int .i64 _ = AV.int .i64 ((unmet (putL P c) : Nat) : Int) by congr 1; omega) rfl), trivial⟩ ⟨⟨_, rfl, (by first | exact .row _ _ _ _ _ _ _ rfl rfl | exact .lstrow _ _ _ _ _ _ _ rfl rfl | exact .nilrow _ _ _ _ _ rfl | exact .truncrow _ _ _ _ _ _ _ _ rfl (by omega) rfl)⟩, ⟨_, rfl, (by first | exact .row _ _ _ _ _ _ _ rfl rfl | exact .lstrow _ _ _ _ _ _ _ rfl rfl | exact .nilrow _ _ _ _ _ rfl | exact .truncrow _ _ _ _ _ _ _ _ rfl (by omega) rfl)⟩, ⟨_, rfl, (by first | exact .row _ _ _ _ _ _ _ rfl hpn | exact .lstrow _ _ _ _ _ _ _ rfl hpn | exact .nilrow _ _ _ _ _ hpn | exact .truncrow _ _ _ _ _ _ _ _ rfl (by omega) hpn)⟩, trivial⟩)⟩
      · have hc3 := of_decide_eq_false hc3
        have := hmin i0 (by omega)
        rw [hr0] at this
        cases this
    · have hc2 := of_decide_eq_false hc2
      conv => whnf
      refine ⟨_, wk_frz [1], ?_⟩
      conv => whnf
      rw [hres L ⟨P, hG, by omega⟩]
      rfl
  · have hne : errG l ≠ 0 := hE
    refine .one _ _ _ (fun _ => (by have := graph_ok l hl1 hx; unfold rG at this; rw [if_neg hE] at this; exact this)) (by repeat (first | exact .nil | (apply BorL.cons; first | exact lS rfl | exact lR rfl | exact lM rfl rfl | exact lL rfl | exact lX rfl | exact lN | exact lNl | exact lSm rfl | exact lIm rfl | exact lP rfl | exact lQ rfl | exact lB rfl rfl rfl))) (by first | exact .inl rfl | exact .inr (by repeat (first | exact flats_nil | refine flats_cons (by first | exact flat_val _ rfl | exact flat_row (fun _ => rfl) | exact flat_lst (fun _ => rfl)) ?_))) (by first | exact .inr rfl | exact .inl rfl) ?_
    conv => whnf
    refine ⟨fun he => ?_, fun he => ?_⟩
    · conv => whnf
      refine ⟨_, Wk.refl _, ?_⟩
      conv => whnf
      unfold rGr
      rw [if_neg hE]
      rfl
    · simp only [Bool.not_eq_false', decide_eq_true_eq] at he
      exact absurd he hne
end Go.Proofs.Ytmcgfkkagijcmaa

namespace Go.Proofs.Ytmcgfkkagijcmaa
open Go.Own
set_option maxHeartbeats 4000000
set_option maxRecDepth 100000

/-- Lists no longer than the machine's. -/
def LenOk (g : List (List Int)) : Prop := g.length ≤ 9223372036854775807 ∧ ∀ r ∈ g, r.length ≤ 9223372036854775807
theorem listsI_eq {a b : List Int} (hl : a.length = b.length) (h : ∀ k, k < a.length → a.getD k 0 = b.getD k 0) : a = b :=
  List.ext_getElem hl fun k h1 h2 => by
    have := h k h1
    rwa [ngetD h1, ngetD h2] at this
theorem lists_eq {a b : List (List Int)} (hl : a.length = b.length) (h : ∀ k, k < a.length → a.getD k [] = b.getD k []) : a = b :=
  List.ext_getElem hl fun k h1 h2 => by
    have := h k h1
    rwa [ngetD h1, ngetD h2] at this

theorem lists_ok (a b : List (List Int)) (ha : LenOk a) (hb : LenOk b) : APureV Try.prog 13 [.sl 1 encIs [] a, .sl 1 encIs [] b] (.bool (decide (a = b))) := by
  obtain ⟨ha1, ha2⟩ := ha
  obtain ⟨hb1, hb2⟩ := hb
  refine apure_of (C := cx 53 [0, 1, 4, 5, 6, 11, 15, 28, 35, 52]) (cxOk _ _) Try.func13 rfl (by decide) rfl (by exact Nat.le_of_ble_eq_true rfl) (by decide) ?_
  conv => whnf
  refine ⟨fun hc => ?_, fun hc => ?_⟩
  · conv => whnf
    have hne : a ≠ b := fun e => by subst e; simp at hc
    rw [decide_eq_false hne]
    rfl
  have hlen : a.length = b.length := by
    simp only [Bool.not_eq_false', decide_eq_true_eq] at hc
    omega
  conv => whnf
  refine loop_up (cxOk _ _) a.length (fun k => ∀ j, j < k → a.getD j [] = b.getD j []) (fun k => ⟨[(0, .sl 1 encIs [] a), (1, .sl 1 encIs [] b), (5, .int .i64 (k : Nat))], [], 0⟩) (by intro j hj; omega) ((wk_of [] rfl ⟨.base (.tree _ _ rfl rfl), .base (.tree _ _ rfl rfl), .base (.tree _ _ rfl rfl), trivial⟩ trivial)) ?_
  intro k hk hP
  conv => whnf
  refine ⟨fun hd => ?_, fun hd => ?_⟩
  · have hd := of_decide_eq_true hd
    have hlt : k < a.length := by omega
    have hek : (k : Int).toNat = k := Int.toNat_natCast k
    have hr1 := ha2 _ (getD_mem (d := []) hlt)
    have hr2 := hb2 _ (getD_mem (d := []) (show k < b.length by omega))
    conv => whnf
    repeat (first | (refine And.intro ⟨by omega, by omega⟩ ?_; conv => whnf) | (refine And.intro (by omega) (And.intro rfl ?_); conv => whnf) | (refine And.intro rfl ?_; conv => whnf) | (refine And.intro (fun _ => ⟨by omega, by omega⟩) ?_; conv => whnf) | (refine And.intro (fun _ => by omega) (And.intro rfl ?_); conv => whnf) | (refine And.intro ⟨(by first | omega | (simp; omega)), (by first | omega | (simp; omega))⟩ ?_; conv => whnf) | (refine Exists.intro _ (And.intro rfl (And.intro (by first | omega | (simp; omega)) (And.intro ⟨rfl, rfl, rfl, rfl, rfl⟩ ?_))); conv => whnf) | (refine And.intro ⟨rfl, rfl⟩ (And.intro (by first | omega | (simp; omega)) ?_); conv => whnf) | (refine Exists.intro _ (And.intro rfl ?_); conv => whnf) | (refine And.intro (fun _ => ?_) (fun h => absurd h (by decide)); conv => whnf) | (refine And.intro (fun h => absurd h (by decide)) (fun _ => ?_); conv => whnf) | (refine .quiet (by kernel_rfl) ?_; conv => whnf))
    rw [hek]
    conv => whnf
    repeat (first | (refine And.intro ⟨by omega, by omega⟩ ?_; conv => whnf) | (refine And.intro (by omega) (And.intro rfl ?_); conv => whnf) | (refine And.intro rfl ?_; conv => whnf) | (refine And.intro (fun _ => ⟨by omega, by omega⟩) ?_; conv => whnf) | (refine And.intro (fun _ => by omega) (And.intro rfl ?_); conv => whnf) | (refine And.intro ⟨(by first | omega | (simp; omega)), (by first | omega | (simp; omega))⟩ ?_; conv => whnf) | (refine Exists.intro _ (And.intro rfl (And.intro (by first | omega | (simp; omega)) (And.intro ⟨rfl, rfl, rfl, rfl, rfl⟩ ?_))); conv => whnf) | (refine And.intro ⟨rfl, rfl⟩ (And.intro (by first | omega | (simp; omega)) ?_); conv => whnf) | (refine Exists.intro _ (And.intro rfl ?_); conv => whnf) | (refine And.intro (fun _ => ?_) (fun h => absurd h (by decide)); conv => whnf) | (refine And.intro (fun h => absurd h (by decide)) (fun _ => ?_); conv => whnf) | (refine .quiet (by kernel_rfl) ?_; conv => whnf))
    have hak : a.getD k [] = b.getD k [] → decide (a = b) = decide (a = b) := fun _ => rfl
    refine ⟨fun he => ?_, fun he => ?_⟩
    · have hne : a ≠ b := fun e => by subst e; simp at he
      conv => whnf
      rw [decide_eq_false hne]
      rfl
    · have hrl : (a.getD k []).length = (b.getD k []).length := by
        simp only [Bool.not_eq_false', decide_eq_true_eq] at he
        omega
      conv => whnf
      refine loop_up (cxOk _ _) (a.getD k []).length (fun m => ∀ j, j < m → (a.getD k []).getD j 0 = (b.getD k []).getD j 0) (fun m => ⟨[(0, .sl 1 encIs [] a), (1, .sl 1 encIs [] b), (5, .int .i64 (k : Nat)), (6, .int .i64 (m : Nat))], [], 0⟩) (by intro j hj; omega) ((wk_of [] rfl ⟨.base (.tree _ _ rfl rfl), .base (.tree _ _ rfl rfl), .base (.tree _ _ rfl rfl), .base (.tree _ _ rfl rfl), trivial⟩ trivial)) ?_
      intro m hm hP2
      conv => whnf
      repeat (first | (refine And.intro ⟨by omega, by omega⟩ ?_; conv => whnf) | (refine And.intro (by omega) (And.intro rfl ?_); conv => whnf) | (refine And.intro rfl ?_; conv => whnf) | (refine And.intro (fun _ => ⟨by omega, by omega⟩) ?_; conv => whnf) | (refine And.intro (fun _ => by omega) (And.intro rfl ?_); conv => whnf) | (refine And.intro ⟨(by first | omega | (simp; omega)), (by first | omega | (simp; omega))⟩ ?_; conv => whnf) | (refine Exists.intro _ (And.intro rfl (And.intro (by first | omega | (simp; omega)) (And.intro ⟨rfl, rfl, rfl, rfl, rfl⟩ ?_))); conv => whnf) | (refine And.intro ⟨rfl, rfl⟩ (And.intro (by first | omega | (simp; omega)) ?_); conv => whnf) | (refine Exists.intro _ (And.intro rfl ?_); conv => whnf) | (refine And.intro (fun _ => ?_) (fun h => absurd h (by decide)); conv => whnf) | (refine And.intro (fun h => absurd h (by decide)) (fun _ => ?_); conv => whnf) | (refine .quiet (by kernel_rfl) ?_; conv => whnf))
      rw [hek]
      conv => whnf
      refine ⟨fun hf => ?_, fun hf => ?_⟩
      · have hf := of_decide_eq_true hf
        have hlm : m < (a.getD k []).length := by omega
        have hem : (m : Int).toNat = m := Int.toNat_natCast m
        conv => whnf
        repeat (first | (refine And.intro ⟨by omega, by omega⟩ ?_; conv => whnf) | (refine And.intro (by omega) (And.intro rfl ?_); conv => whnf) | (refine And.intro rfl ?_; conv => whnf) | (refine And.intro (fun _ => ⟨by omega, by omega⟩) ?_; conv => whnf) | (refine And.intro (fun _ => by omega) (And.intro rfl ?_); conv => whnf) | (refine And.intro ⟨(by first | omega | (simp; omega)), (by first | omega | (simp; omega))⟩ ?_; conv => whnf) | (refine Exists.intro _ (And.intro rfl (And.intro (by first | omega | (simp; omega)) (And.intro ⟨rfl, rfl, rfl, rfl, rfl⟩ ?_))); conv => whnf) | (refine And.intro ⟨rfl, rfl⟩ (And.intro (by first | omega | (simp; omega)) ?_); conv => whnf) | (refine Exists.intro _ (And.intro rfl ?_); conv => whnf) | (refine And.intro (fun _ => ?_) (fun h => absurd h (by decide)); conv => whnf) | (refine And.intro (fun h => absurd h (by decide)) (fun _ => ?_); conv => whnf) | (refine .quiet (by kernel_rfl) ?_; conv => whnf))
        rw [hek]
        conv => whnf
        repeat (first | (refine And.intro ⟨by omega, by omega⟩ ?_; conv => whnf) | (refine And.intro (by omega) (And.intro rfl ?_); conv => whnf) | (refine And.intro rfl ?_; conv => whnf) | (refine And.intro (fun _ => ⟨by omega, by omega⟩) ?_; conv => whnf) | (refine And.intro (fun _ => by omega) (And.intro rfl ?_); conv => whnf) | (refine And.intro ⟨(by first | omega | (simp; omega)), (by first | omega | (simp; omega))⟩ ?_; conv => whnf) | (refine Exists.intro _ (And.intro rfl (And.intro (by first | omega | (simp; omega)) (And.intro ⟨rfl, rfl, rfl, rfl, rfl⟩ ?_))); conv => whnf) | (refine And.intro ⟨rfl, rfl⟩ (And.intro (by first | omega | (simp; omega)) ?_); conv => whnf) | (refine Exists.intro _ (And.intro rfl ?_); conv => whnf) | (refine And.intro (fun _ => ?_) (fun h => absurd h (by decide)); conv => whnf) | (refine And.intro (fun h => absurd h (by decide)) (fun _ => ?_); conv => whnf) | (refine .quiet (by kernel_rfl) ?_; conv => whnf))
        rw [hek]
        conv => whnf
        repeat (first | (refine And.intro ⟨by omega, by omega⟩ ?_; conv => whnf) | (refine And.intro (by omega) (And.intro rfl ?_); conv => whnf) | (refine And.intro rfl ?_; conv => whnf) | (refine And.intro (fun _ => ⟨by omega, by omega⟩) ?_; conv => whnf) | (refine And.intro (fun _ => by omega) (And.intro rfl ?_); conv => whnf) | (refine And.intro ⟨(by first | omega | (simp; omega)), (by first | omega | (simp; omega))⟩ ?_; conv => whnf) | (refine Exists.intro _ (And.intro rfl (And.intro (by first | omega | (simp; omega)) (And.intro ⟨rfl, rfl, rfl, rfl, rfl⟩ ?_))); conv => whnf) | (refine And.intro ⟨rfl, rfl⟩ (And.intro (by first | omega | (simp; omega)) ?_); conv => whnf) | (refine Exists.intro _ (And.intro rfl ?_); conv => whnf) | (refine And.intro (fun _ => ?_) (fun h => absurd h (by decide)); conv => whnf) | (refine And.intro (fun h => absurd h (by decide)) (fun _ => ?_); conv => whnf) | (refine .quiet (by kernel_rfl) ?_; conv => whnf))
        rw [hem]
        conv => whnf
        refine ⟨fun hg => ?_, fun hg => ?_⟩
        · have hne : a ≠ b := fun e => by subst e; simp at hg
          conv => whnf
          rw [decide_eq_false hne]
          rfl
        · have hgg : (a.getD k []).getD m 0 = (b.getD k []).getD m 0 := by simpa using hg
          conv => whnf
          repeat (first | (refine And.intro ⟨by omega, by omega⟩ ?_; conv => whnf) | (refine And.intro (by omega) (And.intro rfl ?_); conv => whnf) | (refine And.intro rfl ?_; conv => whnf) | (refine And.intro (fun _ => ⟨by omega, by omega⟩) ?_; conv => whnf) | (refine And.intro (fun _ => by omega) (And.intro rfl ?_); conv => whnf) | (refine And.intro ⟨(by first | omega | (simp; omega)), (by first | omega | (simp; omega))⟩ ?_; conv => whnf) | (refine Exists.intro _ (And.intro rfl (And.intro (by first | omega | (simp; omega)) (And.intro ⟨rfl, rfl, rfl, rfl, rfl⟩ ?_))); conv => whnf) | (refine And.intro ⟨rfl, rfl⟩ (And.intro (by first | omega | (simp; omega)) ?_); conv => whnf) | (refine Exists.intro _ (And.intro rfl ?_); conv => whnf) | (refine And.intro (fun _ => ?_) (fun h => absurd h (by decide)); conv => whnf) | (refine And.intro (fun h => absurd h (by decide)) (fun _ => ?_); conv => whnf) | (refine .quiet (by kernel_rfl) ?_; conv => whnf))
          refine up hlm (fun j hj => ?_) ((wk_of [] rfl ⟨.base (.tree _ _ rfl rfl), .base (.tree _ _ rfl rfl), .base (.tree _ _ rfl rfl), .base (.tree _ _ rfl rfl), trivial⟩ trivial))
          by_cases e : j = m
          · subst e; exact hgg
          · exact hP2 j (by omega)
      · have hf := of_decide_eq_false hf
        obtain rfl : m = (a.getD k []).length := by omega
        conv => whnf
        repeat (first | (refine And.intro ⟨by omega, by omega⟩ ?_; conv => whnf) | (refine And.intro (by omega) (And.intro rfl ?_); conv => whnf) | (refine And.intro rfl ?_; conv => whnf) | (refine And.intro (fun _ => ⟨by omega, by omega⟩) ?_; conv => whnf) | (refine And.intro (fun _ => by omega) (And.intro rfl ?_); conv => whnf) | (refine And.intro ⟨(by first | omega | (simp; omega)), (by first | omega | (simp; omega))⟩ ?_; conv => whnf) | (refine Exists.intro _ (And.intro rfl (And.intro (by first | omega | (simp; omega)) (And.intro ⟨rfl, rfl, rfl, rfl, rfl⟩ ?_))); conv => whnf) | (refine And.intro ⟨rfl, rfl⟩ (And.intro (by first | omega | (simp; omega)) ?_); conv => whnf) | (refine Exists.intro _ (And.intro rfl ?_); conv => whnf) | (refine And.intro (fun _ => ?_) (fun h => absurd h (by decide)); conv => whnf) | (refine And.intro (fun h => absurd h (by decide)) (fun _ => ?_); conv => whnf) | (refine .quiet (by kernel_rfl) ?_; conv => whnf))
        refine up hlt (fun j hj => ?_) ((wk_of [] rfl ⟨.base (.tree _ _ rfl rfl), .base (.tree _ _ rfl rfl), .base (.tree _ _ rfl rfl), trivial⟩ trivial))
        by_cases e : j = k
        · subst e; exact listsI_eq hrl hP2
        · exact hP j (by omega)
  · have hd := of_decide_eq_false hd
    obtain rfl : k = a.length := by omega
    conv => whnf
    rw [decide_eq_true (lists_eq hlen hP)]
    rfl




theorem index_ok (l : List Int) (x : Int) (hl : l.length ≤ 9223372036854775807) : APure Try.prog 37 [encIs l, .int .i64 x] (fun rs => ∃ v : Int, (0 ≤ v ↔ x ∈ l) ∧ rs = [.val (.int .i64 v)]) := by
  refine apure_of (C := cx 19 [0, 1, 4, 5, 7, 8, 9, 16]) (cxOk _ _) Try.func37 rfl (by decide) rfl (by exact Nat.le_of_ble_eq_true rfl) (by decide) ?_
  conv => whnf
  repeat (first | (refine And.intro ⟨by omega, by omega⟩ ?_; conv => whnf) | (refine And.intro (by omega) (And.intro rfl ?_); conv => whnf) | (refine And.intro rfl ?_; conv => whnf) | (refine And.intro (fun _ => ⟨by omega, by omega⟩) ?_; conv => whnf) | (refine And.intro (fun _ => by omega) (And.intro rfl ?_); conv => whnf) | (refine And.intro ⟨(by first | omega | (simp; omega)), (by first | omega | (simp; omega))⟩ ?_; conv => whnf) | (refine Exists.intro _ (And.intro rfl (And.intro (by first | omega | (simp; omega)) (And.intro ⟨rfl, rfl, rfl, rfl, rfl⟩ ?_))); conv => whnf) | (refine And.intro ⟨rfl, rfl⟩ (And.intro (by first | omega | (simp; omega)) ?_); conv => whnf) | (refine Exists.intro _ (And.intro rfl ?_); conv => whnf) | (refine And.intro (fun _ => ?_) (fun h => absurd h (by decide)); conv => whnf) | (refine And.intro (fun h => absurd h (by decide)) (fun _ => ?_); conv => whnf) | (refine .quiet (by kernel_rfl) ?_; conv => whnf))
  refine loop_up (cxOk _ _) l.length (fun k => ∀ j, j < k → l.getD j 0 ≠ x) (fun k => ⟨[(0, encIs l), (1, .int .i64 x), (7, .int .i64 (l.length : Nat)), (8, .int .i64 (k : Nat))], [], 0⟩) (by intro j hj; omega) ((wk_of [] rfl ⟨.base (.tree _ _ rfl rfl), .base (.tree _ _ rfl rfl), .base (.tree _ _ rfl rfl), .base (.tree _ _ rfl rfl), trivial⟩ trivial)) ?_
  intro k hk hP
  conv => whnf
  refine ⟨fun hd => ?_, fun hd => ?_⟩
  · have hd := of_decide_eq_true hd
    have hlt : k < l.length := by omega
    have hek : (k : Int).toNat = k := Int.toNat_natCast k
    conv => whnf
    repeat (first | (refine And.intro ⟨by omega, by omega⟩ ?_; conv => whnf) | (refine And.intro (by omega) (And.intro rfl ?_); conv => whnf) | (refine And.intro rfl ?_; conv => whnf) | (refine And.intro (fun _ => ⟨by omega, by omega⟩) ?_; conv => whnf) | (refine And.intro (fun _ => by omega) (And.intro rfl ?_); conv => whnf) | (refine And.intro ⟨(by first | omega | (simp; omega)), (by first | omega | (simp; omega))⟩ ?_; conv => whnf) | (refine Exists.intro _ (And.intro rfl (And.intro (by first | omega | (simp; omega)) (And.intro ⟨rfl, rfl, rfl, rfl, rfl⟩ ?_))); conv => whnf) | (refine And.intro ⟨rfl, rfl⟩ (And.intro (by first | omega | (simp; omega)) ?_); conv => whnf) | (refine Exists.intro _ (And.intro rfl ?_); conv => whnf) | (refine And.intro (fun _ => ?_) (fun h => absurd h (by decide)); conv => whnf) | (refine And.intro (fun h => absurd h (by decide)) (fun _ => ?_); conv => whnf) | (refine .quiet (by kernel_rfl) ?_; conv => whnf))
    rw [hek]
    conv => whnf
    refine ⟨fun he => ?_, fun he => ?_⟩
    · have he := of_decide_eq_true he
      conv => whnf
      refine ⟨(k : Int), ⟨fun _ => by rw [he]; exact getD_mem hlt, fun _ => by omega⟩, rfl⟩
    · have he := of_decide_eq_false he
      conv => whnf
      repeat (first | (refine And.intro ⟨by omega, by omega⟩ ?_; conv => whnf) | (refine And.intro (by omega) (And.intro rfl ?_); conv => whnf) | (refine And.intro rfl ?_; conv => whnf) | (refine And.intro (fun _ => ⟨by omega, by omega⟩) ?_; conv => whnf) | (refine And.intro (fun _ => by omega) (And.intro rfl ?_); conv => whnf) | (refine And.intro ⟨(by first | omega | (simp; omega)), (by first | omega | (simp; omega))⟩ ?_; conv => whnf) | (refine Exists.intro _ (And.intro rfl (And.intro (by first | omega | (simp; omega)) (And.intro ⟨rfl, rfl, rfl, rfl, rfl⟩ ?_))); conv => whnf) | (refine And.intro ⟨rfl, rfl⟩ (And.intro (by first | omega | (simp; omega)) ?_); conv => whnf) | (refine Exists.intro _ (And.intro rfl ?_); conv => whnf) | (refine And.intro (fun _ => ?_) (fun h => absurd h (by decide)); conv => whnf) | (refine And.intro (fun h => absurd h (by decide)) (fun _ => ?_); conv => whnf) | (refine .quiet (by kernel_rfl) ?_; conv => whnf))
      refine up hlt (fun j hj => ?_) ((wk_of [] rfl ⟨.base (.tree _ _ rfl rfl), .base (.tree _ _ rfl rfl), .base (.tree _ _ rfl rfl), .base (.tree _ _ rfl rfl), trivial⟩ trivial))
      by_cases e : j = k
      · subst e; exact fun e => he e.symm
      · exact hP j (by omega)
  · have hd := of_decide_eq_false hd
    obtain rfl : k = l.length := by omega
    conv => whnf
    refine ⟨-1, ⟨fun h => by omega, fun h => ?_⟩, rfl⟩
    obtain ⟨j, hj, e⟩ := mem_getD (d := 0) h
    exact (hP j hj e).elim
theorem contains_ok (l : List Int) (x : Int) (hl : l.length ≤ 9223372036854775807) : APureV Try.prog 27 [encIs l, .int .i64 x] (.bool (decide (x ∈ l))) := by
  refine apure_of (C := cx 9 [0, 1, 4]) (cxOk _ _) Try.func27 rfl (by decide) rfl (by exact Nat.le_of_ble_eq_true rfl) (by decide) ?_
  conv => whnf
  refine .any _ _ _ ⟨rfl, rfl⟩ (index_ok l x hl) (by repeat (first | exact .nil | (apply BorL.cons; first | exact lS rfl | exact lR rfl | exact lM rfl rfl | exact lL rfl | exact lX rfl | exact lN | exact lNl | exact lSm rfl | exact lIm rfl | exact lP rfl | exact lQ rfl | exact lB rfl rfl rfl))) (by first | exact .inl rfl | exact .inr (by repeat (first | exact flats_nil | refine flats_cons (by first | exact flat_val _ rfl | exact flat_row (fun _ => rfl) | exact flat_lst (fun _ => rfl)) ?_))) ?_
  rintro rs ⟨v, hv, rfl⟩
  conv => whnf
  rw [show decide (x ∈ l) = decide (0 ≤ v) by simp only [hv]]
  rfl
theorem in_ok (l : List Int) (x : Int) (hl : l.length ≤ 9223372036854775807) : APureV Try.prog 26 [encIs l, .int .i64 x] (.bool (decide (x ∈ l))) := by
  refine apure_of (C := cx 18 [0, 1, 4, 5, 9, 17]) (cxOk _ _) Try.func26 rfl (by decide) rfl (by exact Nat.le_of_ble_eq_true rfl) (by decide) ?_
  conv => whnf
  refine loop_up (cxOk _ _) l.length (fun k => ∀ j, j < k → l.getD j 0 ≠ x) (fun k => ⟨[(0, encIs l), (1, .int .i64 x), (5, .int .i64 (k : Nat))], [], 0⟩) (by intro j hj; omega) ((wk_of [] rfl ⟨.base (.tree _ _ rfl rfl), .base (.tree _ _ rfl rfl), .base (.tree _ _ rfl rfl), trivial⟩ trivial)) ?_
  intro k hk hP
  conv => whnf
  refine ⟨fun hd => ?_, fun hd => ?_⟩
  · have hd := of_decide_eq_true hd
    have hlt : k < l.length := by omega
    have hek : (k : Int).toNat = k := Int.toNat_natCast k
    conv => whnf
    repeat (first | (refine And.intro ⟨by omega, by omega⟩ ?_; conv => whnf) | (refine And.intro (by omega) (And.intro rfl ?_); conv => whnf) | (refine And.intro rfl ?_; conv => whnf) | (refine And.intro (fun _ => ⟨by omega, by omega⟩) ?_; conv => whnf) | (refine And.intro (fun _ => by omega) (And.intro rfl ?_); conv => whnf) | (refine And.intro ⟨(by first | omega | (simp; omega)), (by first | omega | (simp; omega))⟩ ?_; conv => whnf) | (refine Exists.intro _ (And.intro rfl (And.intro (by first | omega | (simp; omega)) (And.intro ⟨rfl, rfl, rfl, rfl, rfl⟩ ?_))); conv => whnf) | (refine And.intro ⟨rfl, rfl⟩ (And.intro (by first | omega | (simp; omega)) ?_); conv => whnf) | (refine Exists.intro _ (And.intro rfl ?_); conv => whnf) | (refine And.intro (fun _ => ?_) (fun h => absurd h (by decide)); conv => whnf) | (refine And.intro (fun h => absurd h (by decide)) (fun _ => ?_); conv => whnf) | (refine .quiet (by kernel_rfl) ?_; conv => whnf))
    rw [hek]
    conv => whnf
    refine ⟨fun he => ?_, fun he => ?_⟩
    · have he := of_decide_eq_true he
      conv => whnf
      rw [decide_eq_true (by rw [← he]; exact getD_mem hlt)]
      rfl
    · have he := of_decide_eq_false he
      conv => whnf
      repeat (first | (refine And.intro ⟨by omega, by omega⟩ ?_; conv => whnf) | (refine And.intro (by omega) (And.intro rfl ?_); conv => whnf) | (refine And.intro rfl ?_; conv => whnf) | (refine And.intro (fun _ => ⟨by omega, by omega⟩) ?_; conv => whnf) | (refine And.intro (fun _ => by omega) (And.intro rfl ?_); conv => whnf) | (refine And.intro ⟨(by first | omega | (simp; omega)), (by first | omega | (simp; omega))⟩ ?_; conv => whnf) | (refine Exists.intro _ (And.intro rfl (And.intro (by first | omega | (simp; omega)) (And.intro ⟨rfl, rfl, rfl, rfl, rfl⟩ ?_))); conv => whnf) | (refine And.intro ⟨rfl, rfl⟩ (And.intro (by first | omega | (simp; omega)) ?_); conv => whnf) | (refine Exists.intro _ (And.intro rfl ?_); conv => whnf) | (refine And.intro (fun _ => ?_) (fun h => absurd h (by decide)); conv => whnf) | (refine And.intro (fun h => absurd h (by decide)) (fun _ => ?_); conv => whnf) | (refine .quiet (by kernel_rfl) ?_; conv => whnf))
      refine up hlt (fun j hj => ?_) ((wk_of [] rfl ⟨.base (.tree _ _ rfl rfl), .base (.tree _ _ rfl rfl), .base (.tree _ _ rfl rfl), trivial⟩ trivial))
      by_cases e : j = k
      · subst e; exact he
      · exact hP j (by omega)
  · have hd := of_decide_eq_false hd
    obtain rfl : k = l.length := by omega
    conv => whnf
    rw [decide_eq_false (fun h => by
      obtain ⟨j, hj, e⟩ := mem_getD (d := 0) h
      exact hP j hj e)]
    rfl

/-- A circle. -/
def circB (g : List (List Int)) (c : List Int) : Bool := if c.length = 1 then decide (0 ≤ c.getD 0 0) && decide (c.getD 0 0 < (g.length : Int)) && decide (c.getD 0 0 ∈ g.getD (c.getD 0 0).toNat []) else decide (1 < c.length)
theorem circle_ok (g : List (List Int)) (c : List Int) (hg : LenOk g) (hc : c.length ≤ 9223372036854775807) : APureV Try.prog 14 [.sl 1 encIs [] g, encIs c] (.bool (circB g c)) := by
  obtain ⟨hg1, hg2⟩ := hg
  refine apure_of (C := cx 31 [0, 1, 4, 5, 8]) (cxOk _ _) Try.func14 rfl (by decide) rfl (by exact Nat.le_of_ble_eq_true rfl) (by decide) ?_
  conv => whnf
  refine ⟨fun h1 => ?_, fun h1 => ?_⟩
  · have h1 : c.length ≠ 1 := by
      simp only [Bool.not_eq_true', decide_eq_false_iff_not] at h1
      omega
    conv => whnf
    unfold circB
    rw [if_neg h1, show decide (1 < c.length) = decide (1 < (c.length : Int)) by by_cases e : 1 < c.length <;> simp [e] <;> omega]
    rfl
  · have h1 : c.length = 1 := by
      simp only [Bool.not_eq_false', decide_eq_true_eq] at h1
      omega
    have hrow : ∀ n, (g.getD n []).length ≤ 9223372036854775807 := fun n => by
      by_cases hn : n < g.length
      · exact hg2 _ (getD_mem hn)
      · rw [List.getD_eq_getElem?_getD, List.getElem?_eq_none (by omega)]; exact Nat.zero_le _
    conv => whnf
    repeat (first | (refine And.intro ⟨by omega, by omega⟩ ?_; conv => whnf) | (refine And.intro (by omega) (And.intro rfl ?_); conv => whnf) | (refine And.intro rfl ?_; conv => whnf) | (refine And.intro (fun _ => ⟨by omega, by omega⟩) ?_; conv => whnf) | (refine And.intro (fun _ => by omega) (And.intro rfl ?_); conv => whnf) | (refine And.intro ⟨(by first | omega | (simp; omega)), (by first | omega | (simp; omega))⟩ ?_; conv => whnf) | (refine Exists.intro _ (And.intro rfl (And.intro (by first | omega | (simp; omega)) (And.intro ⟨rfl, rfl, rfl, rfl, rfl⟩ ?_))); conv => whnf) | (refine And.intro ⟨rfl, rfl⟩ (And.intro (by first | omega | (simp; omega)) ?_); conv => whnf) | (refine Exists.intro _ (And.intro rfl ?_); conv => whnf) | (refine And.intro (fun _ => ?_) (fun h => absurd h (by decide)); conv => whnf) | (refine And.intro (fun h => absurd h (by decide)) (fun _ => ?_); conv => whnf) | (refine .quiet (by kernel_rfl) ?_; conv => whnf))
    refine ⟨fun h => ?_, rfl, ?_⟩
    · simp only [andG, polB, Bool.and_eq_true, decide_eq_true_eq] at h
      exact h
    conv => whnf
    refine .one _ _ _ (fun _ => (contains_ok _ _ (hrow _))) (by repeat (first | exact .nil | (apply BorL.cons; first | exact lS rfl | exact lR rfl | exact lM rfl rfl | exact lL rfl | exact lX rfl | exact lN | exact lNl | exact lSm rfl | exact lIm rfl | exact lP rfl | exact lQ rfl | exact lB rfl rfl rfl))) (by first | exact .inl rfl | exact .inr (by repeat (first | exact flats_nil | refine flats_cons (by first | exact flat_val _ rfl | exact flat_row (fun _ => rfl) | exact flat_lst (fun _ => rfl)) ?_))) (by first | exact .inr rfl | exact .inl rfl) ?_
    conv => whnf
    repeat (first | (refine And.intro ⟨by omega, by omega⟩ ?_; conv => whnf) | (refine And.intro (by omega) (And.intro rfl ?_); conv => whnf) | (refine And.intro rfl ?_; conv => whnf) | (refine And.intro (fun _ => ⟨by omega, by omega⟩) ?_; conv => whnf) | (refine And.intro (fun _ => by omega) (And.intro rfl ?_); conv => whnf) | (refine And.intro ⟨(by first | omega | (simp; omega)), (by first | omega | (simp; omega))⟩ ?_; conv => whnf) | (refine Exists.intro _ (And.intro rfl (And.intro (by first | omega | (simp; omega)) (And.intro ⟨rfl, rfl, rfl, rfl, rfl⟩ ?_))); conv => whnf) | (refine And.intro ⟨rfl, rfl⟩ (And.intro (by first | omega | (simp; omega)) ?_); conv => whnf) | (refine Exists.intro _ (And.intro rfl ?_); conv => whnf) | (refine And.intro (fun _ => ?_) (fun h => absurd h (by decide)); conv => whnf) | (refine And.intro (fun h => absurd h (by decide)) (fun _ => ?_); conv => whnf) | (refine .quiet (by kernel_rfl) ?_; conv => whnf))
    unfold circB
    rw [if_pos h1]
    rfl

end Go.Proofs.Ytmcgfkkagijcmaa

namespace Go.Proofs.Ytmcgfkkagijcmaa
open Go.Own
set_option maxHeartbeats 4000000
set_option maxRecDepth 100000

/-! ### How many nodes -/
def cntL (c : Exp → Nat → Nat) (m : Nat) : Nat → List Exp → Nat
  | n, [] => n
  | n, a :: l => cntL c m (if n ≤ m then n + c a (m - n) else n) l
def cntF : Nat → Exp → Nat → Nat
  | 0, _, m => m + 1
  | d + 1, e, m => cntL (cntF d) m 1 e.args
theorem cntL_snoc (c : Exp → Nat → Nat) (m : Nat) : ∀ (l : List Exp) (n : Nat) (a : Exp), cntL c m n (l ++ [a]) = if cntL c m n l ≤ m then cntL c m n l + c a (m - cntL c m n l) else cntL c m n l
  | [], n, a => rfl
  | b :: l, n, a => by rw [List.cons_append, cntL, cntL_snoc c m l]; rfl
theorem cntL_stop (c : Exp → Nat → Nat) (m : Nat) : ∀ (l : List Exp) (n : Nat), m < n → cntL c m n l = n
  | [], n, _ => rfl
  | b :: l, n, h => by rw [cntL, if_neg (by omega), cntL_stop c m l n h]
theorem cntL_app (c : Exp → Nat → Nat) (m : Nat) : ∀ (l r : List Exp) (n : Nat), cntL c m n (l ++ r) = cntL c m (cntL c m n l) r
  | [], r, n => rfl
  | b :: l, r, n => by rw [List.cons_append, cntL, cntL_app c m l, cntL]
theorem cntL_ge (c : Exp → Nat → Nat) (m : Nat) : ∀ (l : List Exp) (n : Nat), n ≤ cntL c m n l
  | [], n => Nat.le_refl _
  | b :: l, n => by
    rw [cntL]
    split
    · exact Nat.le_trans (Nat.le_add_right _ _) (cntL_ge c m l _)
    · exact cntL_ge c m l n
theorem cntF_bound : ∀ (d : Nat) (e : Exp) (m : Nat), 1 ≤ cntF d e m ∧ cntF d e m ≤ m + 1
  | 0, e, m => ⟨by rw [cntF]; omega, by rw [cntF]; exact Nat.le_refl _⟩
  | d + 1, e, m => by
    refine ⟨cntL_ge _ _ _ _, ?_⟩
    rw [cntF]
    have key : ∀ (l : List Exp) (n : Nat), n ≤ m + 1 → cntL (cntF d) m n l ≤ m + 1 := by
      intro l
      induction l with
      | nil => intro n h; exact h
      | cons a l ih =>
        intro n h
        rw [cntL]
        refine ih _ ?_
        split
        · have := (cntF_bound d a (m - n)).2
          omega
        · exact h
    exact key _ _ (by omega)
theorem cntF_subs : ∀ (d : Nat) (e : Exp) (m : Nat), cntF d e m ≤ m → (subs e).length = cntF d e m
  | 0, e, m, h => by rw [cntF] at h; omega
  | d + 1, e, m, h => by
    rw [cntF] at h ⊢
    rw [subs_eq, List.length_cons]
    have key : ∀ (l : List Exp) (n : Nat), cntL (cntF d) m n l ≤ m → (subsL l).length + n = cntL (cntF d) m n l := by
      intro l
      induction l with
      | nil => intro n _; simp [subsL, cntL]
      | cons a l ih =>
        intro n h
        rw [cntL] at h ⊢
        have h1 := cntL_ge (cntF d) m l (if n ≤ m then n + cntF d a (m - n) else n)
        have hn : n ≤ m := by
          by_cases hn : n ≤ m
          · exact hn
          · rw [if_neg hn] at h h1
            omega
        rw [if_pos hn] at h h1 ⊢
        rw [← ih _ h, subsL, List.length_append, cntF_subs d a (m - n) (by omega)]
        omega
    have := key e.args 1 h
    omega

theorem count_ok : ∀ (d : Nat) (e : Exp) (m : Nat) (D M : Int), OkE e → m ≤ 1000 → d ≤ 1000 → D = (d : Int) → M = (m : Int) → APureV Try.prog 20 [encE e, .int .i64 D, .int .i64 M] (.int .i64 ((cntF d e m : Nat) : Int))
  | 0, e, m, D, M, _, hm, _, hD, hM => by
    subst hD hM
    refine apure_of (C := cx 39 [0, 1, 2, 3, 6, 7, 8, 10, 22]) (cxOk _ _) Try.func20 rfl (by decide) rfl (by exact Nat.le_of_ble_eq_true rfl) (by decide) ?_
    conv => whnf
    repeat (first | (refine And.intro ⟨by omega, by omega⟩ ?_; conv => whnf) | (refine And.intro (by omega) (And.intro rfl ?_); conv => whnf) | (refine And.intro rfl ?_; conv => whnf) | (refine And.intro (fun _ => ⟨by omega, by omega⟩) ?_; conv => whnf) | (refine And.intro (fun _ => by omega) (And.intro rfl ?_); conv => whnf) | (refine And.intro ⟨(by first | omega | (simp; omega)), (by first | omega | (simp; omega))⟩ ?_; conv => whnf) | (refine Exists.intro _ (And.intro rfl (And.intro (by first | omega | (simp; omega)) (And.intro ⟨rfl, rfl, rfl, rfl, rfl⟩ ?_))); conv => whnf) | (refine And.intro ⟨rfl, rfl⟩ (And.intro (by first | omega | (simp; omega)) ?_); conv => whnf) | (refine Exists.intro _ (And.intro rfl ?_); conv => whnf) | (refine And.intro (fun _ => ?_) (fun h => absurd h (by decide)); conv => whnf) | (refine And.intro (fun h => absurd h (by decide)) (fun _ => ?_); conv => whnf) | (refine .quiet (by kernel_rfl) ?_; conv => whnf))
    rfl
  | d + 1, e, m, D, M, he, hm, hd, hD, hM => by
    have hal := argsE_len e
    have hlen := he.alen
    refine apure_of (C := cx 39 [0, 1, 2, 3, 6, 7, 8, 10, 22]) (cxOk _ _) Try.func20 rfl (by decide) rfl (by exact Nat.le_of_ble_eq_true rfl) (by decide) ?_
    conv => whnf
    refine ⟨fun hc => ?_, fun hc => ?_⟩
    · have := of_decide_eq_true hc
      omega
    conv => whnf
    repeat (first | (refine And.intro ⟨by omega, by omega⟩ ?_; conv => whnf) | (refine And.intro (by omega) (And.intro rfl ?_); conv => whnf) | (refine And.intro rfl ?_; conv => whnf) | (refine And.intro (fun _ => ⟨by omega, by omega⟩) ?_; conv => whnf) | (refine And.intro (fun _ => by omega) (And.intro rfl ?_); conv => whnf) | (refine And.intro ⟨(by first | omega | (simp; omega)), (by first | omega | (simp; omega))⟩ ?_; conv => whnf) | (refine Exists.intro _ (And.intro rfl (And.intro (by first | omega | (simp; omega)) (And.intro ⟨rfl, rfl, rfl, rfl, rfl⟩ ?_))); conv => whnf) | (refine And.intro ⟨rfl, rfl⟩ (And.intro (by first | omega | (simp; omega)) ?_); conv => whnf) | (refine Exists.intro _ (And.intro rfl ?_); conv => whnf) | (refine And.intro (fun _ => ?_) (fun h => absurd h (by decide)); conv => whnf) | (refine And.intro (fun h => absurd h (by decide)) (fun _ => ?_); conv => whnf) | (refine .quiet (by kernel_rfl) ?_; conv => whnf))
    refine loop_up (cxOk _ _) e.args.length (fun k => True) (fun k => ⟨[(1, .int .i64 D), (2, .int .i64 M), (3, .ptr 0 0), (7, .int .i64 ((cntL (cntF d) m 1 (e.args.take k) : Nat) : Int)), (8, .int .i64 (k : Nat))], [(0, .cells 40 [.int .i64 e.op, .int .i64 e.n, .int .i64 e.unit, .str e.s, .lsl 5 (argsE e)])], 1⟩) trivial ((wk_of [(0, .id 0)] rfl ⟨.base (.tree _ _ rfl rfl), .base (.tree _ _ rfl rfl), .base (.ptr _ _ _ rfl), .base (.tree _ _ rfl rfl), .base (.tree _ _ rfl rfl), trivial⟩ ⟨⟨_, rfl, .cells _ _ _ _ rfl (by repeat (first | exact .nil | refine .cons (by first | exact .base (.tree _ _ rfl rfl) | exact .base (.own _ _ rfl) | exact .base (.ptr _ _ _ rfl) | exact .base (.map _ _ rfl) | exact .base (.nilown _ rfl) | exact .fn _ _ _ _ _ .nil (by repeat (first | exact .nil | refine .cons (by exact .ptr _ _ _ rfl) ?_))) ?_)) rfl⟩, trivial⟩)) ?_
    intro k hk _
    have hek : (k : Int).toNat = k := Int.toNat_natCast k
    have hcn : cntL (cntF d) m 1 (e.args.take k) ≤ m + 1 := by
      have h1 := cntL_app (cntF d) m (e.args.take k) (e.args.drop k) 1
      rw [List.take_append_drop] at h1
      have h2 := cntL_ge (cntF d) m (e.args.drop k) (cntL (cntF d) m 1 (e.args.take k))
      have h3 := (cntF_bound (d + 1) e m).2
      rw [cntF] at h3
      omega
    have hc1 := cntL_ge (cntF d) m (e.args.take k) 1
    conv => whnf
    repeat (first | (refine And.intro ⟨by omega, by omega⟩ ?_; conv => whnf) | (refine And.intro (by omega) (And.intro rfl ?_); conv => whnf) | (refine And.intro rfl ?_; conv => whnf) | (refine And.intro (fun _ => ⟨by omega, by omega⟩) ?_; conv => whnf) | (refine And.intro (fun _ => by omega) (And.intro rfl ?_); conv => whnf) | (refine And.intro ⟨(by first | omega | (simp; omega)), (by first | omega | (simp; omega))⟩ ?_; conv => whnf) | (refine Exists.intro _ (And.intro rfl (And.intro (by first | omega | (simp; omega)) (And.intro ⟨rfl, rfl, rfl, rfl, rfl⟩ ?_))); conv => whnf) | (refine And.intro ⟨rfl, rfl⟩ (And.intro (by first | omega | (simp; omega)) ?_); conv => whnf) | (refine Exists.intro _ (And.intro rfl ?_); conv => whnf) | (refine And.intro (fun _ => ?_) (fun h => absurd h (by decide)); conv => whnf) | (refine And.intro (fun h => absurd h (by decide)) (fun _ => ?_); conv => whnf) | (refine .quiet (by kernel_rfl) ?_; conv => whnf))
    refine ⟨fun hf => ?_, fun hf => ?_⟩
    · simp only [Bool.and_eq_true, decide_eq_true_eq] at hf
      have hlt : k < e.args.length := by omega
      have hmem : e.args.getD k ex0 ∈ e.args := getD_mem hlt
      have hget := argsE_get e hlt
      have hn : cntL (cntF d) m 1 (e.args.take k) ≤ m := by omega
      have hst : cntL (cntF d) m 1 (e.args.take (k + 1)) = cntL (cntF d) m 1 (e.args.take k) + cntF d (e.args.getD k ex0) (m - cntL (cntF d) m 1 (e.args.take k)) := by
        rw [take_getD (d := ex0) hlt, cntL_snoc, if_pos hn]
      have hcb := (cntF_bound d (e.args.getD k ex0) (m - cntL (cntF d) m 1 (e.args.take k))).2
      have hih := count_ok d (e.args.getD k ex0) (m - cntL (cntF d) m 1 (e.args.take k)) (D - 1) (M - ((cntL (cntF d) m 1 (e.args.take k) : Nat) : Int)) (he.arg _ hmem) (by omega) (by omega) (by omega) (by omega)
      generalize hN : cntL (cntF d) m 1 (e.args.take k) = N at *
      generalize hN' : cntL (cntF d) m 1 (e.args.take (k + 1)) = N' at *
      generalize hC : cntF d (e.args.getD k ex0) (m - N) = C at *
      generalize e.args.getD k ex0 = a at *
      conv => whnf
      repeat (first | (refine And.intro ⟨by omega, by omega⟩ ?_; conv => whnf) | (refine And.intro (by omega) (And.intro rfl ?_); conv => whnf) | (refine And.intro rfl ?_; conv => whnf) | (refine And.intro (fun _ => ⟨by omega, by omega⟩) ?_; conv => whnf) | (refine And.intro (fun _ => by omega) (And.intro rfl ?_); conv => whnf) | (refine And.intro ⟨(by first | omega | (simp; omega)), (by first | omega | (simp; omega))⟩ ?_; conv => whnf) | (refine Exists.intro _ (And.intro rfl (And.intro (by first | omega | (simp; omega)) (And.intro ⟨rfl, rfl, rfl, rfl, rfl⟩ ?_))); conv => whnf) | (refine And.intro ⟨rfl, rfl⟩ (And.intro (by first | omega | (simp; omega)) ?_); conv => whnf) | (refine Exists.intro _ (And.intro rfl ?_); conv => whnf) | (refine And.intro (fun _ => ?_) (fun h => absurd h (by decide)); conv => whnf) | (refine And.intro (fun h => absurd h (by decide)) (fun _ => ?_); conv => whnf) | (refine .quiet (by kernel_rfl) ?_; conv => whnf))
      rw [hek, hget]
      conv => whnf
      repeat (first | (refine And.intro ⟨by omega, by omega⟩ ?_; conv => whnf) | (refine And.intro (by omega) (And.intro rfl ?_); conv => whnf) | (refine And.intro rfl ?_; conv => whnf) | (refine And.intro (fun _ => ⟨by omega, by omega⟩) ?_; conv => whnf) | (refine And.intro (fun _ => by omega) (And.intro rfl ?_); conv => whnf) | (refine And.intro ⟨(by first | omega | (simp; omega)), (by first | omega | (simp; omega))⟩ ?_; conv => whnf) | (refine Exists.intro _ (And.intro rfl (And.intro (by first | omega | (simp; omega)) (And.intro ⟨rfl, rfl, rfl, rfl, rfl⟩ ?_))); conv => whnf) | (refine And.intro ⟨rfl, rfl⟩ (And.intro (by first | omega | (simp; omega)) ?_); conv => whnf) | (refine Exists.intro _ (And.intro rfl ?_); conv => whnf) | (refine And.intro (fun _ => ?_) (fun h => absurd h (by decide)); conv => whnf) | (refine And.intro (fun h => absurd h (by decide)) (fun _ => ?_); conv => whnf) | (refine .quiet (by kernel_rfl) ?_; conv => whnf))
      refine .one _ _ _ (fun _ => hih) (by repeat (first | exact .nil | (apply BorL.cons; first | exact lS rfl | exact lR rfl | exact lM rfl rfl | exact lL rfl | exact lX rfl | exact lN | exact lNl | exact lSm rfl | exact lIm rfl | exact lP rfl | exact lQ rfl | exact lB rfl rfl rfl))) (by first | exact .inl rfl | exact .inr (by repeat (first | exact flats_nil | refine flats_cons (by first | exact flat_val _ rfl | exact flat_row (fun _ => rfl) | exact flat_lst (fun _ => rfl)) ?_))) (by first | exact .inr rfl | exact .inl rfl) ?_
      conv => whnf
      repeat (first | (refine And.intro ⟨by omega, by omega⟩ ?_; conv => whnf) | (refine And.intro (by omega) (And.intro rfl ?_); conv => whnf) | (refine And.intro rfl ?_; conv => whnf) | (refine And.intro (fun _ => ⟨by omega, by omega⟩) ?_; conv => whnf) | (refine And.intro (fun _ => by omega) (And.intro rfl ?_); conv => whnf) | (refine And.intro ⟨(by first | omega | (simp; omega)), (by first | omega | (simp; omega))⟩ ?_; conv => whnf) | (refine Exists.intro _ (And.intro rfl (And.intro (by first | omega | (simp; omega)) (And.intro ⟨rfl, rfl, rfl, rfl, rfl⟩ ?_))); conv => whnf) | (refine And.intro ⟨rfl, rfl⟩ (And.intro (by first | omega | (simp; omega)) ?_); conv => whnf) | (refine Exists.intro _ (And.intro rfl ?_); conv => whnf) | (refine And.intro (fun _ => ?_) (fun h => absurd h (by decide)); conv => whnf) | (refine And.intro (fun h => absurd h (by decide)) (fun _ => ?_); conv => whnf) | (refine .quiet (by kernel_rfl) ?_; conv => whnf))
      refine up hlt trivial ((wk_of [(0, .id 0)] rfl ⟨.base (.tree _ _ rfl rfl), .base (.tree _ _ rfl rfl), .base (.ptr _ _ _ rfl), .base (.tree _ _ (show AV.int .i64 _ = AV.int .i64 _ by rw [hN', hst]; rfl) rfl), .base (.tree _ _ rfl rfl), trivial⟩ ⟨⟨_, rfl, .cells _ _ _ _ rfl (by repeat (first | exact .nil | refine .cons (by first | exact .base (.tree _ _ rfl rfl) | exact .base (.own _ _ rfl) | exact .base (.ptr _ _ _ rfl) | exact .base (.map _ _ rfl) | exact .base (.nilown _ rfl) | exact .fn _ _ _ _ _ .nil (by repeat (first | exact .nil | refine .cons (by exact .ptr _ _ _ rfl) ?_))) ?_)) rfl⟩, trivial⟩))
    · have hfin : cntL (cntF d) m 1 (e.args.take k) = cntF (d + 1) e m := by
        rw [cntF]
        simp only [Bool.and_eq_false_iff, decide_eq_false_iff_not] at hf
        rcases hf with hf | hf
        · rw [List.take_of_length_le (by omega)]
        · have h1 := cntL_app (cntF d) m (e.args.take k) (e.args.drop k) 1
          rw [List.take_append_drop] at h1
          have h2 := cntL_stop (cntF d) m (e.args.drop k) (cntL (cntF d) m 1 (e.args.take k)) (by omega)
          rw [h1, h2]
      rw [hfin]
      conv => whnf
      rfl

/-! ### Few -/
def fewX (x : Ind) : Bool := decide (x.lets.length ≤ 5) && decide (cntF 12 x.coupon 30 ≤ 30) && decide (x.name.length ≤ 60) && x.lets.all fun l => decide (cntF 12 l.body 30 ≤ 30)
def fewB (l : List Ind) (n : Int) : Bool := decide ((l.length : Int) ≤ n) && l.all fewX
/-- What is read of the machine. -/
structure InX (x : Ind) : Prop where
  name : x.name.length ≤ 9223372036854775807
  lets : x.lets.length ≤ 9223372036854775807
  body : ∀ l ∈ x.lets, OkE l.body
  coupon : OkE x.coupon
theorem few_okX {x : Ind} (h : InX x) (hf : fewX x = true) : OkX x := by
  simp only [fewX, Bool.and_eq_true, decide_eq_true_eq, List.all_eq_true] at hf
  obtain ⟨⟨⟨h1, h2⟩, _⟩, h4⟩ := hf
  refine ⟨by omega, h.body, h.coupon, ?_⟩
  unfold allX
  rw [List.length_append, cntF_subs 12 x.coupon 30 h2]
  have key : ∀ l : List LetE, (∀ y ∈ l, cntF 12 y.body 30 ≤ 30) → (l.flatMap fun l => subs l.body).length ≤ 30 * l.length := by
    intro l
    induction l with
    | nil => intro _; simp
    | cons a l ih =>
      intro h
      have h5 := h a (by simp)
      have := ih fun y hy => h y (by simp [hy])
      rw [List.flatMap_cons, List.length_append, cntF_subs 12 a.body 30 h5, List.length_cons]
      omega
  have := key x.lets h4
  omega
theorem few_ok (l : List Ind) (n : Int) (hl : l.length ≤ 9223372036854775807) (hx : ∀ x ∈ l, InX x) : APureV Try.prog 8 [encXs l, .int .i64 n] (.bool (fewB l n)) := by
  refine apure_of (C := cx 63 [0, 1, 4, 5, 6, 10, 14, 41, 49, 62]) (cxOk _ _) Try.func8 rfl (by decide) rfl (by exact Nat.le_of_ble_eq_true rfl) (by decide) ?_
  conv => whnf
  refine ⟨fun hc => ?_, fun hc => ?_⟩
  · have hc := of_decide_eq_true hc
    conv => whnf
    unfold fewB
    rw [decide_eq_false (by omega)]
    rfl
  have hc := of_decide_eq_false hc
  have hln : ∀ b, fewB l n = b ↔ l.all fewX = b := fun b => by unfold fewB; rw [decide_eq_true (by omega), Bool.true_and]
  conv => whnf
  refine loop_up (cxOk _ _) l.length (fun k => ∀ j, j < k → fewX (l.getD j i0) = true) (fun k => ⟨[(0, encXs l), (5, .int .i64 (k : Nat))], [], 0⟩) (by intro j hj; omega) ((wk_of [] rfl ⟨.base (.tree _ _ rfl rfl), .base (.tree _ _ rfl rfl), trivial⟩ trivial)) ?_
  intro k hk hP
  conv => whnf
  refine ⟨fun hd => ?_, fun hd => ?_⟩
  · have hd := of_decide_eq_true hd
    have hlt : k < l.length := by omega
    have hek : (k : Int).toNat = k := Int.toNat_natCast k
    have hmem : l.getD k i0 ∈ l := getD_mem hlt
    have hix := hx _ hmem
    have hil := hix.lets
    have hin := hix.name
    have hno : fewX (l.getD k i0) = false → fewB l n = false := fun h => (hln false).2 (List.all_eq_false.2 ⟨_, hmem, by rw [h]; decide⟩)
    have hcb := (cntF_bound 12 (l.getD k i0).coupon 30).2
    conv => whnf
    repeat (first | (refine And.intro ⟨by omega, by omega⟩ ?_; conv => whnf) | (refine And.intro (by omega) (And.intro rfl ?_); conv => whnf) | (refine And.intro rfl ?_; conv => whnf) | (refine And.intro (fun _ => ⟨by omega, by omega⟩) ?_; conv => whnf) | (refine And.intro (fun _ => by omega) (And.intro rfl ?_); conv => whnf) | (refine And.intro ⟨(by first | omega | (simp; omega)), (by first | omega | (simp; omega))⟩ ?_; conv => whnf) | (refine Exists.intro _ (And.intro rfl (And.intro (by first | omega | (simp; omega)) (And.intro ⟨rfl, rfl, rfl, rfl, rfl⟩ ?_))); conv => whnf) | (refine And.intro ⟨rfl, rfl⟩ (And.intro (by first | omega | (simp; omega)) ?_); conv => whnf) | (refine Exists.intro _ (And.intro rfl ?_); conv => whnf) | (refine And.intro (fun _ => ?_) (fun h => absurd h (by decide)); conv => whnf) | (refine And.intro (fun h => absurd h (by decide)) (fun _ => ?_); conv => whnf) | (refine .quiet (by kernel_rfl) ?_; conv => whnf))
    rw [hek]
    conv => whnf
    repeat (first | (refine And.intro ⟨by omega, by omega⟩ ?_; conv => whnf) | (refine And.intro (by omega) (And.intro rfl ?_); conv => whnf) | (refine And.intro rfl ?_; conv => whnf) | (refine And.intro (fun _ => ⟨by omega, by omega⟩) ?_; conv => whnf) | (refine And.intro (fun _ => by omega) (And.intro rfl ?_); conv => whnf) | (refine And.intro ⟨(by first | omega | (simp; omega)), (by first | omega | (simp; omega))⟩ ?_; conv => whnf) | (refine Exists.intro _ (And.intro rfl (And.intro (by first | omega | (simp; omega)) (And.intro ⟨rfl, rfl, rfl, rfl, rfl⟩ ?_))); conv => whnf) | (refine And.intro ⟨rfl, rfl⟩ (And.intro (by first | omega | (simp; omega)) ?_); conv => whnf) | (refine Exists.intro _ (And.intro rfl ?_); conv => whnf) | (refine And.intro (fun _ => ?_) (fun h => absurd h (by decide)); conv => whnf) | (refine And.intro (fun h => absurd h (by decide)) (fun _ => ?_); conv => whnf) | (refine .quiet (by kernel_rfl) ?_; conv => whnf))
    refine .one _ _ _ (fun _ => (count_ok 12 (l.getD k i0).coupon 30 12 30 hix.coupon (by omega) (by omega) rfl rfl)) (by repeat (first | exact .nil | (apply BorL.cons; first | exact lS rfl | exact lR rfl | exact lM rfl rfl | exact lL rfl | exact lX rfl | exact lN | exact lNl | exact lSm rfl | exact lIm rfl | exact lP rfl | exact lQ rfl | exact lB rfl rfl rfl))) (by first | exact .inl rfl | exact .inr (by repeat (first | exact flats_nil | refine flats_cons (by first | exact flat_val _ rfl | exact flat_row (fun _ => rfl) | exact flat_lst (fun _ => rfl)) ?_))) (by first | exact .inr rfl | exact .inl rfl) ?_
    conv => whnf
    repeat (first | (refine And.intro ⟨by omega, by omega⟩ ?_; conv => whnf) | (refine And.intro (by omega) (And.intro rfl ?_); conv => whnf) | (refine And.intro rfl ?_; conv => whnf) | (refine And.intro (fun _ => ⟨by omega, by omega⟩) ?_; conv => whnf) | (refine And.intro (fun _ => by omega) (And.intro rfl ?_); conv => whnf) | (refine And.intro ⟨(by first | omega | (simp; omega)), (by first | omega | (simp; omega))⟩ ?_; conv => whnf) | (refine Exists.intro _ (And.intro rfl (And.intro (by first | omega | (simp; omega)) (And.intro ⟨rfl, rfl, rfl, rfl, rfl⟩ ?_))); conv => whnf) | (refine And.intro ⟨rfl, rfl⟩ (And.intro (by first | omega | (simp; omega)) ?_); conv => whnf) | (refine Exists.intro _ (And.intro rfl ?_); conv => whnf) | (refine And.intro (fun _ => ?_) (fun h => absurd h (by decide)); conv => whnf) | (refine And.intro (fun h => absurd h (by decide)) (fun _ => ?_); conv => whnf) | (refine .quiet (by kernel_rfl) ?_; conv => whnf))
    rw [hek]
    refine ⟨fun hf => ?_, fun hf => ?_⟩
    · have hf : fewX (l.getD k i0) = false := by
        unfold fewX
        simp only [Bool.or_eq_true, decide_eq_true_eq] at hf
        rcases hf with (h1 | h1) | h1
        · rw [decide_eq_false (by omega)]; rfl
        · rw [decide_eq_false (show ¬ cntF 12 (l.getD k i0).coupon 30 ≤ 30 by omega)]; simp
        · rw [decide_eq_false (show ¬ (l.getD k i0).name.length ≤ 60 by omega)]; simp
      conv => whnf
      rw [hno hf]
      rfl
    · simp only [Bool.or_eq_false_iff, decide_eq_false_iff_not] at hf
      have hfx : fewX (l.getD k i0) = (l.getD k i0).lets.all fun l => decide (cntF 12 l.body 30 ≤ 30) := by
        unfold fewX
        rw [decide_eq_true (by omega), decide_eq_true (by omega), decide_eq_true (by omega)]
        rfl
      conv => whnf
      repeat (first | (refine And.intro ⟨by omega, by omega⟩ ?_; conv => whnf) | (refine And.intro (by omega) (And.intro rfl ?_); conv => whnf) | (refine And.intro rfl ?_; conv => whnf) | (refine And.intro (fun _ => ⟨by omega, by omega⟩) ?_; conv => whnf) | (refine And.intro (fun _ => by omega) (And.intro rfl ?_); conv => whnf) | (refine And.intro ⟨(by first | omega | (simp; omega)), (by first | omega | (simp; omega))⟩ ?_; conv => whnf) | (refine Exists.intro _ (And.intro rfl (And.intro (by first | omega | (simp; omega)) (And.intro ⟨rfl, rfl, rfl, rfl, rfl⟩ ?_))); conv => whnf) | (refine And.intro ⟨rfl, rfl⟩ (And.intro (by first | omega | (simp; omega)) ?_); conv => whnf) | (refine Exists.intro _ (And.intro rfl ?_); conv => whnf) | (refine And.intro (fun _ => ?_) (fun h => absurd h (by decide)); conv => whnf) | (refine And.intro (fun h => absurd h (by decide)) (fun _ => ?_); conv => whnf) | (refine .quiet (by kernel_rfl) ?_; conv => whnf))
      refine loop_up (cxOk _ _) (l.getD k i0).lets.length (fun m => ∀ j, j < m → cntF 12 ((l.getD k i0).lets.getD j l0).body 30 ≤ 30) (fun m => ⟨[(0, encXs l), (5, .int .i64 (k : Nat)), (6, .int .i64 (m : Nat))], [], 0⟩) (by intro j hj; omega) ((wk_of [] rfl ⟨.base (.tree _ _ rfl rfl), .base (.tree _ _ rfl rfl), .base (.tree _ _ rfl rfl), trivial⟩ trivial)) ?_
      intro m hm hP2
      conv => whnf
      repeat (first | (refine And.intro ⟨by omega, by omega⟩ ?_; conv => whnf) | (refine And.intro (by omega) (And.intro rfl ?_); conv => whnf) | (refine And.intro rfl ?_; conv => whnf) | (refine And.intro (fun _ => ⟨by omega, by omega⟩) ?_; conv => whnf) | (refine And.intro (fun _ => by omega) (And.intro rfl ?_); conv => whnf) | (refine And.intro ⟨(by first | omega | (simp; omega)), (by first | omega | (simp; omega))⟩ ?_; conv => whnf) | (refine Exists.intro _ (And.intro rfl (And.intro (by first | omega | (simp; omega)) (And.intro ⟨rfl, rfl, rfl, rfl, rfl⟩ ?_))); conv => whnf) | (refine And.intro ⟨rfl, rfl⟩ (And.intro (by first | omega | (simp; omega)) ?_); conv => whnf) | (refine Exists.intro _ (And.intro rfl ?_); conv => whnf) | (refine And.intro (fun _ => ?_) (fun h => absurd h (by decide)); conv => whnf) | (refine And.intro (fun h => absurd h (by decide)) (fun _ => ?_); conv => whnf) | (refine .quiet (by kernel_rfl) ?_; conv => whnf))
      rw [hek]
      conv => whnf
      refine ⟨fun hg => ?_, fun hg => ?_⟩
      · have hg := of_decide_eq_true hg
        have hlm : m < (l.getD k i0).lets.length := by omega
        have hem : (m : Int).toNat = m := Int.toNat_natCast m
        have hmem2 : (l.getD k i0).lets.getD m l0 ∈ (l.getD k i0).lets := getD_mem hlm
        have hbo := hix.body _ hmem2
        have hcb2 := (cntF_bound 12 ((l.getD k i0).lets.getD m l0).body 30).2
        conv => whnf
        repeat (first | (refine And.intro ⟨by omega, by omega⟩ ?_; conv => whnf) | (refine And.intro (by omega) (And.intro rfl ?_); conv => whnf) | (refine And.intro rfl ?_; conv => whnf) | (refine And.intro (fun _ => ⟨by omega, by omega⟩) ?_; conv => whnf) | (refine And.intro (fun _ => by omega) (And.intro rfl ?_); conv => whnf) | (refine And.intro ⟨(by first | omega | (simp; omega)), (by first | omega | (simp; omega))⟩ ?_; conv => whnf) | (refine Exists.intro _ (And.intro rfl (And.intro (by first | omega | (simp; omega)) (And.intro ⟨rfl, rfl, rfl, rfl, rfl⟩ ?_))); conv => whnf) | (refine And.intro ⟨rfl, rfl⟩ (And.intro (by first | omega | (simp; omega)) ?_); conv => whnf) | (refine Exists.intro _ (And.intro rfl ?_); conv => whnf) | (refine And.intro (fun _ => ?_) (fun h => absurd h (by decide)); conv => whnf) | (refine And.intro (fun h => absurd h (by decide)) (fun _ => ?_); conv => whnf) | (refine .quiet (by kernel_rfl) ?_; conv => whnf))
        rw [hek]
        conv => whnf
        repeat (first | (refine And.intro ⟨by omega, by omega⟩ ?_; conv => whnf) | (refine And.intro (by omega) (And.intro rfl ?_); conv => whnf) | (refine And.intro rfl ?_; conv => whnf) | (refine And.intro (fun _ => ⟨by omega, by omega⟩) ?_; conv => whnf) | (refine And.intro (fun _ => by omega) (And.intro rfl ?_); conv => whnf) | (refine And.intro ⟨(by first | omega | (simp; omega)), (by first | omega | (simp; omega))⟩ ?_; conv => whnf) | (refine Exists.intro _ (And.intro rfl (And.intro (by first | omega | (simp; omega)) (And.intro ⟨rfl, rfl, rfl, rfl, rfl⟩ ?_))); conv => whnf) | (refine And.intro ⟨rfl, rfl⟩ (And.intro (by first | omega | (simp; omega)) ?_); conv => whnf) | (refine Exists.intro _ (And.intro rfl ?_); conv => whnf) | (refine And.intro (fun _ => ?_) (fun h => absurd h (by decide)); conv => whnf) | (refine And.intro (fun h => absurd h (by decide)) (fun _ => ?_); conv => whnf) | (refine .quiet (by kernel_rfl) ?_; conv => whnf))
        rw [hem]
        conv => whnf
        repeat (first | (refine And.intro ⟨by omega, by omega⟩ ?_; conv => whnf) | (refine And.intro (by omega) (And.intro rfl ?_); conv => whnf) | (refine And.intro rfl ?_; conv => whnf) | (refine And.intro (fun _ => ⟨by omega, by omega⟩) ?_; conv => whnf) | (refine And.intro (fun _ => by omega) (And.intro rfl ?_); conv => whnf) | (refine And.intro ⟨(by first | omega | (simp; omega)), (by first | omega | (simp; omega))⟩ ?_; conv => whnf) | (refine Exists.intro _ (And.intro rfl (And.intro (by first | omega | (simp; omega)) (And.intro ⟨rfl, rfl, rfl, rfl, rfl⟩ ?_))); conv => whnf) | (refine And.intro ⟨rfl, rfl⟩ (And.intro (by first | omega | (simp; omega)) ?_); conv => whnf) | (refine Exists.intro _ (And.intro rfl ?_); conv => whnf) | (refine And.intro (fun _ => ?_) (fun h => absurd h (by decide)); conv => whnf) | (refine And.intro (fun h => absurd h (by decide)) (fun _ => ?_); conv => whnf) | (refine .quiet (by kernel_rfl) ?_; conv => whnf))
        refine .one _ _ _ (fun _ => (count_ok 12 ((l.getD k i0).lets.getD m l0).body 30 12 30 hbo (by omega) (by omega) rfl rfl)) (by repeat (first | exact .nil | (apply BorL.cons; first | exact lS rfl | exact lR rfl | exact lM rfl rfl | exact lL rfl | exact lX rfl | exact lN | exact lNl | exact lSm rfl | exact lIm rfl | exact lP rfl | exact lQ rfl | exact lB rfl rfl rfl))) (by first | exact .inl rfl | exact .inr (by repeat (first | exact flats_nil | refine flats_cons (by first | exact flat_val _ rfl | exact flat_row (fun _ => rfl) | exact flat_lst (fun _ => rfl)) ?_))) (by first | exact .inr rfl | exact .inl rfl) ?_
        conv => whnf
        repeat (first | (refine And.intro ⟨by omega, by omega⟩ ?_; conv => whnf) | (refine And.intro (by omega) (And.intro rfl ?_); conv => whnf) | (refine And.intro rfl ?_; conv => whnf) | (refine And.intro (fun _ => ⟨by omega, by omega⟩) ?_; conv => whnf) | (refine And.intro (fun _ => by omega) (And.intro rfl ?_); conv => whnf) | (refine And.intro ⟨(by first | omega | (simp; omega)), (by first | omega | (simp; omega))⟩ ?_; conv => whnf) | (refine Exists.intro _ (And.intro rfl (And.intro (by first | omega | (simp; omega)) (And.intro ⟨rfl, rfl, rfl, rfl, rfl⟩ ?_))); conv => whnf) | (refine And.intro ⟨rfl, rfl⟩ (And.intro (by first | omega | (simp; omega)) ?_); conv => whnf) | (refine Exists.intro _ (And.intro rfl ?_); conv => whnf) | (refine And.intro (fun _ => ?_) (fun h => absurd h (by decide)); conv => whnf) | (refine And.intro (fun h => absurd h (by decide)) (fun _ => ?_); conv => whnf) | (refine .quiet (by kernel_rfl) ?_; conv => whnf))
        refine ⟨fun hh => ?_, fun hh => ?_⟩
        · have hh := of_decide_eq_true hh
          conv => whnf
          rw [hno (by rw [hfx]; exact List.all_eq_false.2 ⟨_, hmem2, by rw [decide_eq_false (by omega)]; decide⟩)]
          rfl
        · have hh := of_decide_eq_false hh
          conv => whnf
          repeat (first | (refine And.intro ⟨by omega, by omega⟩ ?_; conv => whnf) | (refine And.intro (by omega) (And.intro rfl ?_); conv => whnf) | (refine And.intro rfl ?_; conv => whnf) | (refine And.intro (fun _ => ⟨by omega, by omega⟩) ?_; conv => whnf) | (refine And.intro (fun _ => by omega) (And.intro rfl ?_); conv => whnf) | (refine And.intro ⟨(by first | omega | (simp; omega)), (by first | omega | (simp; omega))⟩ ?_; conv => whnf) | (refine Exists.intro _ (And.intro rfl (And.intro (by first | omega | (simp; omega)) (And.intro ⟨rfl, rfl, rfl, rfl, rfl⟩ ?_))); conv => whnf) | (refine And.intro ⟨rfl, rfl⟩ (And.intro (by first | omega | (simp; omega)) ?_); conv => whnf) | (refine Exists.intro _ (And.intro rfl ?_); conv => whnf) | (refine And.intro (fun _ => ?_) (fun h => absurd h (by decide)); conv => whnf) | (refine And.intro (fun h => absurd h (by decide)) (fun _ => ?_); conv => whnf) | (refine .quiet (by kernel_rfl) ?_; conv => whnf))
          refine up hlm (fun j hj => ?_) ((wk_of [] rfl ⟨.base (.tree _ _ rfl rfl), .base (.tree _ _ rfl rfl), .base (.tree _ _ rfl rfl), trivial⟩ trivial))
          by_cases e : j = m
          · subst e; omega
          · exact hP2 j (by omega)
      · have hg := of_decide_eq_false hg
        obtain rfl : m = (l.getD k i0).lets.length := by omega
        conv => whnf
        repeat (first | (refine And.intro ⟨by omega, by omega⟩ ?_; conv => whnf) | (refine And.intro (by omega) (And.intro rfl ?_); conv => whnf) | (refine And.intro rfl ?_; conv => whnf) | (refine And.intro (fun _ => ⟨by omega, by omega⟩) ?_; conv => whnf) | (refine And.intro (fun _ => by omega) (And.intro rfl ?_); conv => whnf) | (refine And.intro ⟨(by first | omega | (simp; omega)), (by first | omega | (simp; omega))⟩ ?_; conv => whnf) | (refine Exists.intro _ (And.intro rfl (And.intro (by first | omega | (simp; omega)) (And.intro ⟨rfl, rfl, rfl, rfl, rfl⟩ ?_))); conv => whnf) | (refine And.intro ⟨rfl, rfl⟩ (And.intro (by first | omega | (simp; omega)) ?_); conv => whnf) | (refine Exists.intro _ (And.intro rfl ?_); conv => whnf) | (refine And.intro (fun _ => ?_) (fun h => absurd h (by decide)); conv => whnf) | (refine And.intro (fun h => absurd h (by decide)) (fun _ => ?_); conv => whnf) | (refine .quiet (by kernel_rfl) ?_; conv => whnf))
        refine up hlt (fun j hj => ?_) ((wk_of [] rfl ⟨.base (.tree _ _ rfl rfl), .base (.tree _ _ rfl rfl), trivial⟩ trivial))
        by_cases e : j = k
        · subst e
          rw [hfx, List.all_eq_true]
          intro y hy
          obtain ⟨j', hj', rfl⟩ := mem_getD (d := l0) hy
          exact decide_eq_true (hP2 j' hj')
        · exact hP j (by omega)
  · have hd := of_decide_eq_false hd
    obtain rfl : k = l.length := by omega
    conv => whnf
    rw [(hln true).2 (List.all_eq_true.2 fun x hx => by obtain ⟨j, hj, rfl⟩ := mem_getD (d := i0) hx; exact hP j hj)]
    rfl

/-! ### The name that nobody uses -/
def uu : List UInt8 := [46, 46, 117, 110, 117, 115, 101, 100]
open Classical in
noncomputable def nmB (e : Exp) : Bool := decide (∃ x, Sub e x ∧ x.s = uu)
noncomputable def unuX (x : Ind) : Bool := nmB x.coupon || x.lets.any fun l => nmB l.body
noncomputable def unuB (l : List Ind) : Bool := l.any unuX
end Go.Proofs.Ytmcgfkkagijcmaa
