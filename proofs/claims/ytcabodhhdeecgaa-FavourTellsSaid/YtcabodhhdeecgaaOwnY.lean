/-
  Loops that count up; small helps for proofs of functions.
-/
import Derived.Test.YtcabodhhdeecgaaOwnX
namespace Go.Own

theorem loop_up [Tabs] {C : Cx} (hT : CxOk C) {body : Code} {st0 : St} {Q : Exit → St → Prop} (n : Nat) (P : Nat → Prop) (st : Nat → St) (h0 : P 0) (hw : Wk C.pn C.N st0 (st 0))
    (round : ∀ k, k ≤ n → P k → evCode C body (st k) (loopQ (fun k => k ≤ n ∧ P k) (fun k => n - k) (n - k) C.pn C.N st Q)) : LoopG C body st0 Q :=
  loop_inv hT (σ := Nat) (fun k => k ≤ n ∧ P k) (fun k => n - k) st 0 ⟨Nat.zero_le _, h0⟩ hw fun k ⟨h1, h2⟩ => round k h1 h2

theorem up [Tabs] {n k pn N : Nat} {P : Nat → Prop} {st : Nat → St} {st' : St} (h : k < n) (hP : P (k + 1)) (hw : Wk pn N st' (st (k + 1))) : ∃ s, (s ≤ n ∧ P s) ∧ n - s < n - k ∧ Wk pn N st' (st s) :=
  ⟨k + 1, ⟨h, hP⟩, by omega, hw⟩

theorem guard_true {b : Bool} (h : andG [] (polB true b) = true) : b = true := by simpa [andG, polB] using h
theorem guard_false {b : Bool} (h : andG [] (polB false b) = true) : b = false := by simpa [andG, polB] using h
theorem guard_true2 {t : Nat} {p g : Bool} {r : List Lay} {b : Bool} (h : andG (⟨t, p, g⟩ :: r) (polB true b) = true) : g = true ∧ b = true := by simpa [andG, polB] using h
theorem guard_false2 {t : Nat} {p g : Bool} {r : List Lay} {b : Bool} (h : andG (⟨t, p, g⟩ :: r) (polB false b) = true) : g = true ∧ b = false := by simpa [andG, polB] using h

theorem getD_mem {α : Type _} {l : List α} {k : Nat} {d : α} (h : k < l.length) : l.getD k d ∈ l := by simp [List.getD, List.getElem?_eq_getElem h]
theorem mem_getD {α : Type _} {l : List α} {x d : α} (h : x ∈ l) : ∃ k, k < l.length ∧ l.getD k d = x := by
  obtain ⟨k, hk, rfl⟩ := List.getElem_of_mem h
  exact ⟨k, hk, by simp [List.getD, List.getElem?_eq_getElem hk]⟩
theorem take_getD {α : Type _} {l : List α} {k : Nat} {d : α} (h : k < l.length) : l.take (k + 1) = l.take k ++ [l.getD k d] := by
  rw [List.take_add_one]
  simp [List.getD, List.getElem?_eq_getElem h]

/-- A result that is handed on to be read only. -/
def freezeR : AR → AR
  | .val a => .val a
  | .new (.lst _ E l) => .val (.lsl E l)
  | .new (.row _ E enc d xs) => .val (.sl E enc d xs)
  | .new (.smap ev dv es) => .val (.rsmap ev dv es)
  | .new (.imap k ev dv es) => .val (.rimap k ev dv es)
  | .new _ => .val .undef

theorem freezeR_rel {S S2 : Blocks} {w : World} {B : Nat} {u : Value} {r : AR} (h : RelR S w B u r) (hS : ∀ g, S g → S2 g) (hb : ∀ b g, r = .new b → blk u = some g → S2 g) : RelR S2 w B u (freezeR r) := by
  cases r with
  | val a => exact RelT.more hS h
  | new b =>
    have hrel := h.2.2 0
    have hbk := fun g => hb b g rfl
    cases b with
    | dead => exact .undef u
    | cells e l => exact .undef u
    | arr e k n f => exact .undef u
    | que e E enc d xs => exact .undef u
    | lst e E l =>
      obtain ⟨v, vs, hm, hr⟩ := hrel
      simp at hm
      subst hm
      exact hr.lent hS hbk
    | row e E enc d xs =>
      obtain ⟨v, vs, hm, hr⟩ := hrel
      simp at hm
      subst hm
      exact .sl _ _ _ _ _ (hr.lent hS hbk)
    | smap ev dv es =>
      obtain ⟨r, en, clock, hm, hr, hl, hst, hrel⟩ := hrel
      simp at hm
      subst hm
      exact .rsmap ev dv es r clock en (hbk r rfl) hr hl hst (fun j x p h1 h2 => (hrel j x p h1 h2).1) (fun j x p h1 h2 => (hrel j x p h1 h2).2.more hS)
    | imap k ev dv es =>
      obtain ⟨r, en, clock, hm, hr, hl, hst, hrel⟩ := hrel
      simp at hm
      subst hm
      exact .rimap k ev dv es r clock en (hbk r rfl) hr hl hst (fun j x p h1 h2 => (hrel j x p h1 h2).1) (fun j x p h1 h2 => (hrel j x p h1 h2).2.more hS)

theorem freezeR_val (r : AR) : ∃ a, freezeR r = .val a := by
  cases r with
  | val a => exact ⟨a, rfl⟩
  | new b => cases b <;> exact ⟨_, rfl⟩

theorem Left.freeze {S S' : Blocks} {w w' : World} {us : List Value} {rs : List AR} (h : Left S w us rs S' w') : ∃ S2, Left S w us (rs.map freezeR) S2 w' := by
  have hnew : ∀ (j : Nat) (u : Value) (b : AB) (g : Nat), us[j]? = some u → rs[j]? = some (.new b) → blk u = some g → w.heap.size ≤ g ∧ g < w'.heap.size := by
    intro j u b g hu hb hg
    obtain ⟨h1, h2, h3⟩ : RelR S' w' w.heap.size u (.new b) := h.rel j u _ hu hb
    exact ⟨h2 g hg, (h3 0).blk_lt h1 (by simp) hg⟩
  refine ⟨fun g => S' g ∨ ∃ (j : Nat) (u : Value) (b : AB), us[j]? = some u ∧ rs[j]? = some (AR.new b) ∧ blk u = some g, ⟨by simp [h.len], fun j u r hu hr => ?_, h.below, fun g hg => .inl (h.ros g hg), fun g hg => ?_, fun g hg => ?_, fun i u b k hu hb => ?_⟩⟩
  · rw [List.getElem?_map] at hr
    cases hr0 : rs[j]? with
    | none => rw [hr0] at hr; cases hr
    | some r0 =>
      rw [hr0] at hr
      cases hr
      exact freezeR_rel (h.rel j u r0 hu hr0) (fun g hg => .inl hg) fun b g e hg => .inr ⟨j, u, b, hu, by rw [hr0, e], hg⟩
  · rcases hg with hg | ⟨j, u, b, h1, h2, h3⟩
    · exact h.fresh g hg
    · exact .inr (hnew j u b g h1 h2 h3).1
  · rcases hg with hg | ⟨j, u, b, h1, h2, h3⟩
    · exact h.lt g hg
    · exact (hnew j u b g h1 h2 h3).2
  · rw [List.getElem?_map] at hb
    cases hr0 : rs[i]? with
    | none => rw [hr0] at hb; cases hb
    | some r0 =>
      rw [hr0] at hb
      obtain ⟨a, ha⟩ := freezeR_val r0
      simp [ha] at hb

theorem APure.freeze [Tabs] {P : Program} {f : FuncId} {args : List AV} {R : List AR → Prop} (h : APure P f args R) : APure P f args (fun rs' => ∃ rs, R rs ∧ rs' = rs.map freezeR) :=
  ⟨h.1, fun S w vs hS hT hv => (h.2 S w vs hS hT hv).mono fun _ _ ⟨us, rs, S', he, hR, hl⟩ => let ⟨S2, hl2⟩ := hl.freeze; ⟨us, _, S2, he, ⟨rs, hR, rfl⟩, hl2⟩⟩

/-- .. of one result. -/
theorem APure.freeze1 [Tabs] {P : Program} {f : FuncId} {args : List AV} {rs0 : List AR} (h : APure P f args (fun rs => rs = rs0)) : APure P f args (fun rs => rs = rs0.map freezeR) :=
  h.freeze.mono fun rs ⟨rs', e, e'⟩ => by subst e; exact e'

/-- Nil is an empty row of one's own. -/
inductive LeR : AR → AR → Prop
  | same (r : AR) : LeR r r
  | nil {T : Type} (e E : Nat) (enc : T → AV) (d : T) : LeR (.val .nils) (.new (.row e E enc d []))
  | nill (e E : Nat) : LeR (.val .nils) (.new (.lst e E []))
  | lst {T : Type} (e E : Nat) (enc : T → AV) (d : T) (l : List AV) (xs : List T) (h : l = xs.map enc) : LeR (.new (.lst e E l)) (.new (.row e E enc d xs))
  | nilsl {T : Type} (E : Nat) (enc : T → AV) (d : T) : LeR (.val .nils) (.val (.sl E enc d []))
  | lsl {T : Type} (E : Nat) (enc : T → AV) (d : T) (l : List AV) (xs : List T) (h : l = xs.map enc) : LeR (.val (.lsl E l)) (.val (.sl E enc d xs))

theorem LeR.rel {S : Blocks} {w : World} {B : Nat} {u : Value} {r r' : AR} (h : LeR r r') (hr : RelR S w B u r) : RelR S w B u r' ∧ ∀ b', r' = .new b' → ∀ k, blk u = some k → ∃ b, r = .new b := by
  cases h with
  | same r => exact ⟨hr, fun b' e k _ => ⟨b', e⟩⟩
  | nil e E enc d =>
    have : u = .slice none 0 0 := by cases hr; rfl
    subst this
    exact ⟨⟨rfl, fun k hk => by simp [blk] at hk, fun n => ⟨_, [], by simp, ⟨World.ownsRow_nil w 0 e E, by simp, by simp [flat], by simp⟩⟩⟩, fun b' _ k hk => by simp [blk] at hk⟩
  | nill e E =>
    have : u = .slice none 0 0 := by cases hr; rfl
    subst this
    exact ⟨⟨rfl, fun k hk => by simp [blk] at hk, fun n => ⟨_, [], by simp, ⟨World.ownsRow_nil w 0 e E, by simp, by simp [flat], by simp⟩⟩⟩, fun b' _ k hk => by simp [blk] at hk⟩
  | lst e E enc d l xs h =>
    subst h
    exact ⟨⟨rfl, hr.2.1, fun n => hr.2.2 n⟩, fun b' _ k _ => ⟨_, rfl⟩⟩
  | nilsl E enc d =>
    have : u = .slice none 0 0 := by cases hr; rfl
    subst this
    exact ⟨.sl _ _ _ _ _ (.lslnil E), fun b' e => by cases e⟩
  | lsl E enc d l xs h =>
    subst h
    exact ⟨.sl _ _ _ _ _ hr, fun b' e => by cases e⟩

theorem APure.le [Tabs] {P : Program} {f : FuncId} {args : List AV} {R R' : List AR → Prop} (h : APure P f args R) (hle : ∀ rs, R rs → ∃ rs', R' rs' ∧ rs'.length = rs.length ∧ ∀ (j : Nat) (r r' : AR), rs[j]? = some r → rs'[j]? = some r' → LeR r r') : APure P f args R' := by
  refine ⟨h.1, fun S w vs hS hT hv => (h.2 S w vs hS hT hv).mono fun _ _ ⟨us, rs, S', he, hR, hl⟩ => ?_⟩
  obtain ⟨rs', hR', hlen, hr⟩ := hle rs hR
  have get : ∀ (j : Nat) (u : Value) (r' : AR), us[j]? = some u → rs'[j]? = some r' → ∃ r, rs[j]? = some r ∧ LeR r r' := by
    intro j u r' hu hr'
    obtain ⟨r, hrj⟩ : ∃ r, rs[j]? = some r := ⟨_, List.getElem?_eq_getElem (by have := (List.getElem?_eq_some_iff.1 hr').1; omega)⟩
    exact ⟨r, hrj, hr j r r' hrj hr'⟩
  refine ⟨us, rs', S', he, hR', ⟨by rw [hlen]; exact hl.len, fun j u r' hu hr' => ?_, hl.below, hl.ros, hl.fresh, hl.lt, fun i u b' k hu hb hk => ?_⟩⟩
  · obtain ⟨r, hrj, hle⟩ := get j u r' hu hr'
    exact (hle.rel (hl.rel j u r hu hrj)).1
  · obtain ⟨r, hrj, hle⟩ := get i u _ hu hb
    obtain ⟨b, rfl⟩ := (hle.rel (hl.rel i u r hu hrj)).2 b' rfl k hk
    obtain ⟨h1, h2⟩ := hl.apart i u b k hu hrj hk
    refine ⟨h1, fun j u' b'' hu' hb' hk' => ?_⟩
    obtain ⟨r2, hrj2, hle2⟩ := get j u' _ hu' hb'
    obtain ⟨b2, rfl⟩ := (hle2.rel (hl.rel j u' r2 hu' hrj2)).2 b'' rfl k hk'
    exact h2 j u' b2 hu' hrj2 hk'

theorem APure.le1 [Tabs] {P : Program} {f : FuncId} {args : List AV} {r r' : AR} (h : APure P f args (fun rs => rs = [r])) (hle : LeR r r') : APure P f args (fun rs => rs = [r']) :=
  h.le fun rs e => ⟨[r'], rfl, by subst e; rfl, fun j a b h1 h2 => by
    subst e
    cases j with
    | zero => simp at h1 h2; subst h1; subst h2; exact hle
    | succ j => simp at h1⟩

theorem flats_nil : ∀ r ∈ ([] : List AR), r.flat := fun r h => by simp at h
theorem flats_cons {r : AR} {rs : List AR} (h : r.flat) (t : ∀ x ∈ rs, x.flat) : ∀ x ∈ r :: rs, x.flat := fun x hx => by
  rcases List.mem_cons.1 hx with rfl | hx
  · exact h
  · exact t x hx
theorem flat_val (a : AV) (h : a.scal = true) : (AR.val a).flat := h
theorem flat_row {T : Type} {e E : Nat} {enc : T → AV} {d : T} {xs : List T} (h : ∀ x, (enc x).scal = true) : (AR.new (.row e E enc d xs)).flat := fun x _ => h x
theorem flat_lst {T : Type} {e E : Nat} {enc : T → AV} {xs : List T} (h : ∀ x, (enc x).scal = true) : (AR.new (.lst e E (xs.map enc))).flat := fun y hy => by
  obtain ⟨x, _, rfl⟩ := List.mem_map.1 hy
  exact h x

/-! ### Lending, by short names -/
theorem lS {H : Heap} {a : AV} (h : a.tree = true) : Lend H a a [] := .base (.base (.same _ h))
theorem lR {T : Type} {H : Heap} {id e E : Nat} {enc : T → AV} {d : T} {xs : List T} (h : lkH H id = .row e E enc d xs) : Lend H (.own id) (.sl E enc d xs) [id] := .base (.base (.row _ _ _ _ _ _ h))
theorem lL {H : Heap} {id e E : Nat} {l : List AV} (h : lkH H id = .lst e E l) : Lend H (.own id) (.lsl E l) [id] := .base (.base (.lst _ _ _ _ h))
theorem lM {T : Type} {H : Heap} {id e E : Nat} {l : List AV} {enc : T → AV} {d : T} {xs : List T} (h : lkH H id = .lst e E l) (hl : l = xs.map enc) : Lend H (.own id) (.sl E enc d xs) [id] := .base (.base (.lstrow _ _ _ _ _ _ _ h hl))
theorem lX {T : Type} {H : Heap} {E : Nat} {l : List AV} {enc : T → AV} {d : T} {xs : List T} (h : l = xs.map enc) : Lend H (.lsl E l) (.sl E enc d xs) [] := .base (.base (.lsl _ _ _ _ _ h))
theorem lN {T : Type} {H : Heap} {E : Nat} {enc : T → AV} {d : T} : Lend H .nils (.sl E enc d []) [] := .base (.base (.nils _ _ _))
theorem lNl {H : Heap} {E : Nat} : Lend H .nils (.lsl E []) [] := .base (.base (.nill _))
theorem lSm {V : Type} {H : Heap} {id : Nat} {ev : V → AV} {dv : V} {es : List (List UInt8 × V)} (h : lkH H id = .smap ev dv es) : Lend H (.map id) (.rsmap ev dv es) [id] := .base (.base (.smap _ _ _ _ h))
theorem lIm {V : Type} {H : Heap} {id : Nat} {k : IntKind} {ev : V → AV} {dv : V} {es : List (Int × V)} (h : lkH H id = .imap k ev dv es) : Lend H (.map id) (.rimap k ev dv es) [id] := .base (.base (.imap _ _ _ _ _ h))
theorem borL_same {H : Heap} : ∀ {l : List AV}, treesB l = true → BorL (Bor1 H (Bor H)) l l []
  | [], _ => .nil
  | a :: l, h => by
    have ha := treesB_spec h a (List.mem_cons_self)
    have hl : treesB l = true := by
      unfold treesB at h
      split at h
      · exact h
      · cases h
    exact .cons (t := []) (t' := []) (.base (.same _ ha)) (borL_same hl)
/-- A box of trees. -/
theorem lB {H : Heap} {id e : Nat} {l : List AV} (h : lkH H id = .cells e l) (ht : treesB l = true) (h1 : allOne l = true) : Lend H (.ptr id 0) (.rop l) [id] := .box id 0 e l l [] h (borL_same ht) (allOne_spec h1)
theorem lP {T : Type} {H : Heap} {id n e E : Nat} {enc : T → AV} {d : T} {xs : List T} (h : lkH H id = .row e E enc d xs) : Lend H (.pre id n) (.sl E enc d (xs.take n)) [id] := .base (.base (.pre _ _ _ _ _ _ _ h))
theorem lQ {T : Type} {H : Heap} {id off n e E : Nat} {enc : T → AV} {d : T} {xs : List T} (h : lkH H id = .row e E enc d xs) : Lend H (.part id E off n) (.sl E enc d ((xs.drop off).take n)) [id] := .base (.base (.part _ _ _ _ _ _ _ _ h))

end Go.Own
