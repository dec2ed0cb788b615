/-
  Results that are told more loosely; what a new list of structs is as a row.
-/
import Derived.Test.YtcabodhhdeecgaaOwnZ5
import Derived.Test.YtcabodhhdeecgaaOwnZ8
import Derived.Test.YtcabodhhdeecgaaOwnZ7
import Derived.Test.YtcabodhhdeecgaaOwnZ2
namespace Go.Own

theorem LeT.trans {a b c : AV} (h : LeT a b) (k : LeT b c) : LeT a c := fun S w v hr => k S w v (h S w v hr)

/-- A new list is a new row. -/
theorem APure.rowT [Tabs] {P : Program} {f : FuncId} {args : List AV} {e : TypeId} {E : Nat} {l : List AV} {T : Type} {enc : T → AV} {d : T} {xs : List T} (h : APure P f args (fun rs => rs = [.new (.lst e E l)]))
    (hlen : (xs.map enc).length = l.length) (hE : ∀ x ∈ xs.map enc, x.cells.length = E) (h1 : ∀ a ∈ flat (xs.map enc), a.one = true) (ht : LeTs (flat l) (flat (xs.map enc))) : APure P f args (fun rs => rs = [.new (.row e E enc d xs)]) := by
  refine ⟨h.1, fun S w vs hS hT hv => (h.2 S w vs hS hT hv).mono ?_⟩
  rintro en w' ⟨us, rs, S', he, rfl, hL⟩
  refine ⟨us, _, S', he, rfl, ⟨by rw [hL.len]; rfl, fun j u r hu hr => ?_, hL.below, hL.ros, hL.fresh, hL.lt, fun i u b k hu hb hk => ?_⟩⟩
  · match j, hr with
    | 0, hr =>
      simp at hr
      subst hr
      obtain ⟨_, h2, h3⟩ := hL.rel 0 u _ hu rfl
      refine ⟨rfl, h2, fun n => ?_⟩
      obtain ⟨v, vs, hm, hr⟩ := h3 n
      exact ⟨v, vs, hm, hr.leT hlen hE h1 ht⟩
  · match i, hb with
    | 0, _ =>
      obtain ⟨a1, a2⟩ := hL.apart 0 u _ k hu rfl hk
      refine ⟨a1, fun j u' b' hu' hb' hk' => ?_⟩
      match j, hb' with
      | 0, _ => rfl

/-- A call to which the caller gives its objects for good: they are read only from then on, and the results may point to them. -/
theorem giv_sem [Tabs] {P : Program} {f : FuncId} {avs args' : List AV} {H : Heap} {nx : Nat} {touch : List Nat} {rs : List AR} (hc : APure P f args' (fun r => r = rs)) (hb : BorL (Lend H) avs args' touch) :
    CallSem P f avs H nx touch (fun r => r = ⟨valR (tv rs nx), touch, tw rs nx ++ touch.map (fun i => (i, AB.dead)), tn rs nx⟩) := by
  obtain ⟨hfn, hcall⟩ := hc
  refine ⟨hfn, fun m S w H₂ vs hG ht hfree hvl hrel => ?_⟩
  obtain ⟨hlen, hbor⟩ := borL_sound (lend_ok H) hb
  have hG2 := good_freeze hG touch
  have hown : ∀ g, own m (touch.map (fun i => (i, AB.dead)) ++ H₂) g → own m H₂ g := by
    rintro g ⟨i, v, hl, hm, hb⟩
    rw [lkH_dead] at hl
    by_cases e : i ∈ touch
    · rw [if_pos e] at hl; cases hl
    · rw [if_neg e] at hl; exact ⟨i, v, hl, hm, hb⟩
  refine (hcall (fun g => S g ∨ lent m H₂ touch g) w vs (fun g hg => (hG2.ro g hg).1) hG2.tab ⟨by rw [hvl, hlen], hbor m S w H₂ _ hG ht (fun _ h => .inl h) (fun _ h => .inr h) vs hvl hrel⟩).mono ?_
  rintro e w' ⟨us, rs', S'', rfl, rfl, hL⟩
  have hG' : Good m S'' w' (touch.map (fun i => (i, AB.dead)) ++ H₂) := by
    refine ⟨fun id => (hG2.rel id).mono (fun _ _ h => h) (fun g hg => hL.ros g hg) (fun g hg => hL.below.block g (hG2.ro g hg).1) (fun v k hl hv hk => hL.below.block k (hG2.blk_lt hl hv hk)), hG2.sep, fun g hg => ⟨hL.lt g hg, fun i v hl hv hk => ?_⟩, hG2.tab.mono (fun g hg => hL.ros g hg) fun g hg => hL.below.block g (hG2.ro g hg).1⟩
    rcases hL.fresh g hg with h | h
    · exact (hG2.ro g h).2 i v hl hv hk
    · have := hG2.blk_lt hl hv hk
      omega
  obtain ⟨m', g1, g2, g3, g4, g5, g6⟩ := take_sound (B := w.heap.size) rs' us nx m _ hG' (fun i hi hlt => hfree i hi ⟨_, rfl, hlt⟩) hL.len hL.rel (fun j u b k hu hr hk => by
    obtain ⟨a1, a2⟩ := hL.apart j u b k hu hr hk
    refine ⟨a1, fun ho => ?_, a2⟩
    have h1 := hG2.own_lt ho
    have h2 : RelR _ w' w.heap.size u (.new b) := hL.rel j u _ hu hr
    have := h2.2.1 k hk
    omega)
  refine ⟨retVal us, _, m', S'', rfl, rfl, ⟨g2, g3, fun g hg => hL.ros g (.inl hg), fun g hg => ?_, Far.of_below hL.below, fun k hk => ?_, by rw [List.append_assoc]; exact g1⟩, retVal_rel g5 g6⟩
  · rcases hL.fresh g hg with (h | ⟨i, v, _, h1, h2, h3⟩) | h
    · exact .inl h
    · exact .inr (.inl ⟨i, v, h1, h2, h3⟩)
    · exact .inr (.inr h)
  · rw [List.append_assoc] at hk
    rcases g4 k hk with h | h
    · exact .inl (hown k h)
    · exact .inr h

/-! ### Cells that nobody asks for -/

theorem opensR_any {P : Program} {t : TypeId} {R : List AV → Prop} (h : OpensR P t 1 R) : OpensR P t 1 (fun l => l = [.any1]) := by
  refine ⟨h.1, fun ec W fuel cs x hx => ?_⟩
  obtain ⟨l, _, h1, h2, h3, h4⟩ := h.2 ec W fuel cs x hx
  refine ⟨_, rfl, by rw [h1, h2]; rfl, rfl, by simp [AV.one], fun j c b hj hb => ?_⟩
  cases j with
  | zero =>
    simp at hb
    subst hb
    match l, h2 with
    | [a], _ => exact .any1 c ((h4 0 c a hj rfl).oneCell (h3 a (by simp)))
  | succ j => simp at hb

theorem opensR_sliceAny {P : Program} {t e : TypeId} (ht : P.underlying t = some (.slice e)) (hc : P.cellsOf t = 1) : OpensR P t 1 (fun l => l = [.any1]) := by
  refine ⟨hc, fun {H} ec W fuel cs x h => ?_⟩
  have fin : ∀ {a : Option Addr} {n c : Nat}, cs = [.slice a n c] → ∃ l, l = [AV.any1] ∧ cs.length = l.length ∧ l.length = 1 ∧ (∀ b ∈ l, b.one = true) ∧ ∀ (j : Nat) (c : Value) (b : AV), cs[j]? = some c → l[j]? = some b → RelT (All W) W c b := by
    intro a n c e
    refine ⟨_, rfl, by rw [e]; rfl, rfl, by simp [AV.one], fun j c b hj hb => ?_⟩
    rw [e] at hj
    cases j with
    | zero => simp at hj hb; subst hj; subst hb; exact .any1 _ rfl
    | succ j => simp at hj
  rcases Go.Deep.open_slice ht h with ⟨hcs, _⟩ | ⟨a, len, cap, m, n, D, Pl, hcs, _⟩
  · exact fin hcs
  · exact fin hcs

theorem units_eq (xs : List Unit) : xs = List.replicate xs.length () := by
  induction xs with
  | nil => rfl
  | cons x xs ih => rw [List.length_cons, List.replicate_succ, ← ih]

end Go.Own
