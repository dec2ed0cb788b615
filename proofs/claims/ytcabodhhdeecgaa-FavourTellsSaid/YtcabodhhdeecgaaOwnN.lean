/-
  Contracts of functions over abstract values, and what a call of one does.
-/
import Derived.Test.YtcabodhhdeecgaaOwnM3
namespace Go.Own

/-- A result: a tree, or a new object of the callee's making. -/
inductive AR : Type 1 where
  | val (a : AV)
  | new (b : AB)

def RelR (S : Blocks) (w : World) (B : Nat) (v : Value) : AR → Prop
  | .val a => RelT S w v a
  | .new b => b.live = true ∧ (∀ k, blk v = some k → B ≤ k) ∧ ∀ n, RelB (fun i => if i = n then some v else none) S w n b

def retVal : List Value → Value
  | [v] => v
  | vs => .tuple vs.toArray

/-- What a call leaves: values for the results, their new objects apart from each other and from what nobody writes. -/
structure Left (S : Blocks) (w : World) (us : List Value) (rs : List AR) (S' : Blocks) (w' : World) : Prop where
  len : us.length = rs.length
  rel : ∀ (j : Nat) (u : Value) (r : AR), us[j]? = some u → rs[j]? = some r → RelR S' w' w.heap.size u r
  below : RowKit.Below w.heap.size w w'
  ros : ∀ g, S g → S' g
  fresh : ∀ g, S' g → S g ∨ w.heap.size ≤ g
  lt : ∀ g, S' g → g < w'.heap.size
  apart : ∀ (i : Nat) (u : Value) (b : AB) (k : Nat), us[i]? = some u → rs[i]? = some (.new b) → blk u = some k → ¬ S' k ∧
    ∀ (j : Nat) (u' : Value) (b' : AB), us[j]? = some u' → rs[j]? = some (.new b') → blk u' = some k → i = j

def FnOk (P : Program) (f : FuncId) : Prop := ∃ fn, P.funcs[f]? = some fn ∧ fn.body.isSome = true ∧ (fn.name == "runtime.NumGoroutine") = false

def RelTs (S : Blocks) (w : World) (vs : List Value) (args : List AV) : Prop :=
  vs.length = args.length ∧ ∀ (j : Nat) (v : Value) (a : AV), vs[j]? = some v → args[j]? = some a → RelT S w v a

/-- The contract of a function that only computes. -/
def APure [Tabs] (P : Program) (f : FuncId) (args : List AV) (R : List AR → Prop) : Prop :=
  FnOk P f ∧ ∀ (S : Blocks) (w : World) (vs : List Value), (∀ g, S g → g < w.heap.size) → TabAt S w → RelTs S w vs args →
    Calls P f vs.toArray w fun e w' => ∃ us rs S', e = .returned (retVal us) ∧ R rs ∧ Left S w us rs S' w'

/-- Its result is this value. -/
abbrev APureV [Tabs] (P : Program) (f : FuncId) (args : List AV) (v : AV) : Prop := APure P f args (fun rs => rs = [.val v])

theorem APure.mono [Tabs] {P : Program} {f : FuncId} {args : List AV} {R R' : List AR → Prop} (h : APure P f args R) (hr : ∀ rs, R rs → R' rs) : APure P f args R' :=
  ⟨h.1, fun S w vs hS hT hv => (h.2 S w vs hS hT hv).mono fun _ _ ⟨us, rs, S', he, hR, hl⟩ => ⟨us, rs, S', he, hr _ hR, hl⟩⟩

/-- What a callee may be handed for what the caller has: objects of the caller's own are lent, to be read. -/
inductive Bor (H : Heap) : AV → AV → List Nat → Prop
  | same (a : AV) (h : a.tree = true) : Bor H a a []
  | lsl {T : Type} (E : Nat) (l : List AV) (enc : T → AV) (d : T) (xs : List T) (h : l = xs.map enc) : Bor H (.lsl E l) (.sl E enc d xs) []
  | nils {T : Type} (E : Nat) (enc : T → AV) (d : T) : Bor H .nils (.sl E enc d []) []
  | nill (E : Nat) : Bor H .nils (.lsl E []) []
  | row {T : Type} (id e E : Nat) (enc : T → AV) (d : T) (xs : List T) (h : lkH H id = .row e E enc d xs) : Bor H (.own id) (.sl E enc d xs) [id]
  | lst (id e E : Nat) (l : List AV) (h : lkH H id = .lst e E l) : Bor H (.own id) (.lsl E l) [id]
  | lstrow {T : Type} (id e E : Nat) (l : List AV) (enc : T → AV) (d : T) (xs : List T) (h : lkH H id = .lst e E l) (hl : l = xs.map enc) : Bor H (.own id) (.sl E enc d xs) [id]
  | pre {T : Type} (id n e E : Nat) (enc : T → AV) (d : T) (xs : List T) (h : lkH H id = .row e E enc d xs) : Bor H (.pre id n) (.sl E enc d (xs.take n)) [id]
  | part {T : Type} (id off n e E : Nat) (enc : T → AV) (d : T) (xs : List T) (h : lkH H id = .row e E enc d xs) : Bor H (.part id E off n) (.sl E enc d ((xs.drop off).take n)) [id]
  | smap {V : Type} (id : Nat) (ev : V → AV) (dv : V) (es : List (List UInt8 × V)) (h : lkH H id = .smap ev dv es) : Bor H (.map id) (.rsmap ev dv es) [id]
  | imap {V : Type} (id : Nat) (k : IntKind) (ev : V → AV) (dv : V) (es : List (Int × V)) (h : lkH H id = .imap k ev dv es) : Bor H (.map id) (.rimap k ev dv es) [id]

/-- Lists of them: cells of boxes, captured variables, arguments. Two layers serve. -/
inductive BorL (B : AV → AV → List Nat → Prop) : List AV → List AV → List Nat → Prop
  | nil : BorL B [] [] []
  | cons {a a' : AV} {l l' : List AV} {t t' : List Nat} (h : B a a' t) (hl : BorL B l l' t') : BorL B (a :: l) (a' :: l') (t ++ t')

/-- A layer more: boxes, closures, structs over what Bor lends. -/
inductive Bor1 (H : Heap) (B : AV → AV → List Nat → Prop) : AV → AV → List Nat → Prop
  | base {a a' : AV} {t : List Nat} (h : B a a' t) : Bor1 H B a a' t
  | box (id off e : Nat) (l l' : List AV) (t : List Nat) (h : lkH H id = .cells e l) (hl : BorL B (l.drop off) l' t) (h1 : ∀ a ∈ l', a.one = true) : Bor1 H B (.ptr id off) (.rop l') (id :: t)
  | fn (f : Fn) (a b a' b' : List AV) (t t' : List Nat) (h : BorL B a a' t) (h' : BorL B b b' t') : Bor1 H B (.fn f a b) (.fn f a' b') (t ++ t')
  | agg (l l' : List AV) (t : List Nat) (h : BorL B l l' t) : Bor1 H B (.agg l) (.agg l') t

/-- The blocks that are lent. -/
def lent (m : Ids) (H : Heap) (touch : List Nat) : Blocks := fun g => ∃ id v, id ∈ touch ∧ (lkH H id).live = true ∧ m id = some v ∧ blk v = some g

/-- Lending is sound. -/
def BorOk [Tabs] (H : Heap) (B : AV → AV → List Nat → Prop) : Prop :=
  ∀ a a' touch, B a a' touch → ∀ (m : Ids) (S : Blocks) (w : World) (H₂ : Heap) (S₂ : Blocks) (v : Value), Good m S w H₂ → (∀ id ∈ touch, lkH H₂ id = lkH H id) → (∀ g, S g → S₂ g) → (∀ g, lent m H₂ touch g → S₂ g) →
    RelV m S w v a → RelT S₂ w v a'

theorem RelT.more {S S' : Blocks} {w : World} (hS : ∀ g, S g → S' g) {v : Value} {a : AV} (h : RelT S w v a) : RelT S' w v a := h.mono hS (fun _ _ => rfl)

theorem RowRel.lent {S S₂ : Blocks} {w : World} {e E : Nat} {l : List AV} {v : Value} {vs : List Value} (h : RowRel S w e E l v vs) (hS : ∀ g, S g → S₂ g) (hl : ∀ g, blk v = some g → S₂ g) : RelT S₂ w v (.lsl E l) := by
  obtain ⟨hlen, ho⟩ := h.owns
  rcases ho with ⟨rfl, h0⟩ | ⟨g, cap, cur, rfl, _, hh, hnc, hcm, hcs, htake⟩
  · have : l = [] := List.eq_nil_of_length_eq_zero h0
    subst this
    exact .lslnil E
  · refine .lsl E l g 0 cap vs (hl g rfl) hnc h.size h.ones hlen (fun j c hj => ?_) (fun j c a hj ha => (h.rel j c a hj ha).more hS)
    have := h.owns.cells (g := g) rfl j c hj
    rwa [Addr.add_mid] at this

theorem borOk_base [Tabs] (H : Heap) : BorOk H (Bor H) := by
  intro a a' touch hb m S w H₂ S₂ v hG ht hS hl hr
  cases hb with
  | same a h => exact (hr.toT h).more hS
  | lsl E l enc d xs h => exact .sl _ _ _ _ _ (by rw [← h]; exact (relV_lsl hr).more hS)
  | nils E enc d => cases hr with
    | t _ _ h => cases h; exact .sl _ _ _ _ _ (.lslnil E)
  | nill E => cases hr with
    | t _ _ h => cases h; exact .lslnil E
  | row id e E enc d xs h =>
    obtain ⟨v', vs, hmi, hrow⟩ := own_row (s := .row enc d xs) hG (ht id (by simp)) h
    cases hr with
    | t _ _ h => cases h
    | own id n cap a hm =>
      rw [hmi] at hm
      cases hm
      exact .sl _ _ _ _ _ (hrow.lent hS fun g hg => hl g ⟨id, _, by simp, by rw [ht id (by simp), h]; rfl, hmi, hg⟩)
  | lst id e E l h =>
    obtain ⟨v', vs, hmi, hrow⟩ := own_row (s := .lst l) hG (ht id (by simp)) h
    cases hr with
    | t _ _ h => cases h
    | own id n cap a hm =>
      rw [hmi] at hm
      cases hm
      exact hrow.lent hS fun g hg => hl g ⟨id, _, by simp, by rw [ht id (by simp), h]; rfl, hmi, hg⟩
  | lstrow id e E l enc d xs h hle =>
    obtain ⟨v', vs, hmi, hrow⟩ := own_row (s := .lst l) hG (ht id (by simp)) h
    cases hr with
    | t _ _ h => cases h
    | own id n cap a hm =>
      rw [hmi] at hm
      cases hm
      refine .sl _ _ _ _ _ ?_
      rw [← hle]
      exact hrow.lent hS fun g hg => hl g ⟨id, _, by simp, by rw [ht id (by simp), h]; rfl, hmi, hg⟩
  | pre id n e E enc d xs h =>
    obtain ⟨v', vs, hmi, hrow⟩ := own_row (s := .row enc d xs) hG (ht id (by simp)) h
    cases hr with
    | t _ _ h => cases h
    | pre id len n cap a hm hle =>
      rw [hmi] at hm
      cases hm
      refine .sl _ _ _ _ _ ?_
      rw [List.map_take]
      exact (hrow.take hle).lent hS fun g hg => hl g ⟨id, _, by simp, by rw [ht id (by simp), h]; rfl, hmi, by cases a with
        | none => simp [blk] at hg
        | some a => exact hg⟩
  | part id off n e E enc d xs h =>
    obtain ⟨v', vs, hmi, hrow⟩ := own_row (s := .row enc d xs) hG (ht id (by simp)) h
    cases hr with
    | t _ _ h => cases h
    | part _ _ _ _ g n' cap c hm hle hc0 =>
      rw [hmi] at hm
      cases hm
      have hL := hrow.lent hS fun g hg => hl g ⟨id, _, by simp, by rw [ht id (by simp), h]; rfl, hmi, hg⟩
      rcases relT_lsl hL with ⟨h0 | ⟨ad, h0⟩, hnil⟩ | ⟨g', o', cap', cs, hv, hSg, hcap, hE, h1, hlen, hc, hrr⟩
      · cases h0
      · cases h0
        have hx0 : xs = [] := by simpa [Src.list] using hnil
        have hn0 : n = 0 := by omega
        subst hx0
        subst hn0
        refine .sl _ _ _ _ _ ?_
        have := RelT.lsl (S := S₂) (w := w) E [] g (off * E) c [] (hl g ⟨id, _, by simp, by rw [ht id (by simp), h]; rfl, hmi, rfl⟩) (by simp) (by simp) (by simp [flat]) (by simp) (by simp) (by simp)
        simpa using this
      · cases hv
        have hsub := lsl_sub hSg hcap hE h1 hlen hc hrr (lo := off) (hi := off + n) (by omega) hle
        refine .sl _ _ _ _ _ ?_
        have e1 : (((Src.row enc d xs).list.take (off + n)).drop off) = ((xs.drop off).take n).map enc := by
          simp [Src.list, List.map_take, List.map_drop, List.drop_take]
        rw [e1] at hsub
        have hlen2 : (((xs.drop off).take n).map enc).length = n := by
          have : off + n ≤ (xs.map enc).length := hle
          simp at this ⊢
          omega
        rcases relT_lsl hsub with ⟨h0 | ⟨ad, h0⟩, hnil⟩ | ⟨g2, o2, cap2, cs2, hv2, hS2, hcap2, hE2, h12, hlen3, hc2, hrr2⟩
        · cases h0
        · have hn0 : n = 0 := by rw [← hlen2, hnil]; rfl
          subst hn0
          have := RelT.lsl (S := S₂) (w := w) E [] g (off * E) c [] (hl g ⟨id, _, by simp, by rw [ht id (by simp), h]; rfl, hmi, rfl⟩) (by simp) (by simp) (by simp [flat]) (by simp) (by simp) (by simp)
          simpa using this
        · have hg : g = g2 ∧ o2 = 0 + off * E := by
            have := hv2
            simp at this
            omega
          obtain ⟨rfl, rfl⟩ := hg
          have := RelT.lsl (S := S₂) (w := w) E _ g (0 + off * E) c cs2 hS2 (by rw [hlen2]; exact hc0) hE2 h12 hlen3 hc2 hrr2
          rw [hlen2] at this
          simpa using this
    | partE _ _ _ c g n' cap hm =>
      rw [List.take_zero]
      refine .sl _ _ _ _ _ ?_
      have := RelT.lsl (S := S₂) (w := w) E [] g 0 c [] (hl g ⟨id, _, by simp, by rw [ht id (by simp), h]; rfl, hm, rfl⟩) (by simp) (by simp) (by simp [flat]) (by simp) (by simp) (by simp)
      simpa using this
    | partN id E off => simp; exact .sl _ _ _ _ _ (.lslnil E)
  | smap id ev dv es h =>
    have hb := hG.rel id
    rw [ht id (by simp), h] at hb
    obtain ⟨r, en, clock, hmi, hr', hlen, hst, hrel⟩ := hb
    cases hr with
    | t _ _ h => cases h
    | map id r' hm =>
      rw [hmi] at hm
      cases hm
      exact .rsmap ev dv es r clock en (hl r ⟨id, _, by simp, by rw [ht id (by simp), h]; rfl, hmi, rfl⟩) hr' hlen hst (fun j x p h1 h2 => (hrel j x p h1 h2).1) (fun j x p h1 h2 => (hrel j x p h1 h2).2.more hS)
  | imap id k ev dv es h =>
    have hb := hG.rel id
    rw [ht id (by simp), h] at hb
    obtain ⟨r, en, clock, hmi, hr', hlen, hst, hrel⟩ := hb
    cases hr with
    | t _ _ h => cases h
    | map id r' hm =>
      rw [hmi] at hm
      cases hm
      exact .rimap k ev dv es r clock en (hl r ⟨id, _, by simp, by rw [ht id (by simp), h]; rfl, hmi, rfl⟩) hr' hlen hst (fun j x p h1 h2 => (hrel j x p h1 h2).1) (fun j x p h1 h2 => (hrel j x p h1 h2).2.more hS)

end Go.Own
