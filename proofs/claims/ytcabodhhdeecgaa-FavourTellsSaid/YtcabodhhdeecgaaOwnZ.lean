/-
  From the readings of a row's arguments to abstract values, and from a contract to the row.
-/
import Derived.Test.YtcabodhhdeecgaaOwnY
import Derived.ProofKit
import Derived.Deep.Slices
namespace Go.Own
open Go.ChangeShapes Go.WideShapes Go.RowKit

/-- The blocks that are there. -/
abbrev All (W : World) : Blocks := fun g => g < W.heap.size

/-- What cells of a type read as. -/
def OpensC (P : Program) (t : TypeId) {X : Type} (enc : X → AV) (ok : X → Prop) : Prop :=
  ∀ {H : Type} (ec : TypeId × Value → H) (W : World) (fuel : Nat) (cs : List Value) (x : DataW H × List MemPlace), DataW.trod ec P W 0 (fun _ => true) true fuel t cs = some x →
    ∃ a, ok a ∧ cs.length = (enc a).cells.length ∧ (∀ b ∈ (enc a).cells, b.one = true) ∧ ∀ (j : Nat) (c : Value) (b : AV), cs[j]? = some c → (enc a).cells[j]? = some b → RelT (All W) W c b

theorem opens_slice {P : Program} {t e : TypeId} {X : Type} [Inhabited X] {enc : X → AV} {ok : X → Prop} {E : Nat} {d0 : X} (ht : P.underlying t = some (.slice e)) (hE : P.cellsOf e = E) (hpos : 0 < E) (hE1 : ∀ a, (enc a).cells.length = E) (ho : OpensC P e enc ok)
    {H : Type} {ec : TypeId × Value → H} {W : World} {base : Nat} {v : Value} {d : DataW H} {ps : List MemPlace} (hval : Value.okWide P W .any base t v) (h : DataW.Trod ec P W 0 (fun _ => true) true t v d ps) :
    ∃ l : List X, (∀ a ∈ l, ok a) ∧ l.length ≤ 9223372036854775807 ∧ RelT (All W) W v (.sl E enc d0 l) := by
  obtain ⟨p, len, cap, rfl⟩ := okWide_slice ht hval
  obtain ⟨fuel, hf⟩ := h
  rcases Deep.open_slice ht hf with ⟨hcs, _⟩ | ⟨a, len', cap', m, n, D, Pl, hcs, hb, hl, hm, hmm, _, hel⟩
  · simp [Value.cells] at hcs
    obtain ⟨rfl, rfl, rfl⟩ := hcs
    exact ⟨[], by simp, by simp, .sl _ _ _ _ _ (.lslnil E)⟩
  · simp [Value.cells] at hcs
    obtain ⟨rfl, rfl, rfl⟩ := hcs
    simp only [if_true] at hmm
    subst hmm
    rw [hE] at hel
    have hok : len ≤ m ∧ (m : Int) ≤ IntKind.i64.max ∧ W.has P .any base a e m := by
      simpa [Value.okWide, Cell.okWide, Cell.ok, ht] using hval
    obtain ⟨_, _, _, hspot, row, cells, hshape, _⟩ := hok
    obtain ⟨g, o, sp⟩ := a
    simp only at hspot
    subst hspot
    have hlt : g < W.heap.size := by
      unfold World.shape? at hshape
      cases hg : W.heap[g]? with
      | none => simp [hg] at hshape
      | some ob => exact (Array.getElem?_eq_some_iff.1 hg).1
    obtain ⟨A, hA⟩ := Deep.choose_lt (α := X) (n := len) (p := fun i x => ok x ∧ ∃ cs', W.cells? 0 ((⟨g, o, none⟩ : Addr).add (i * E)) E = some cs' ∧ cs'.length = (enc x).cells.length ∧ (∀ b ∈ (enc x).cells, b.one = true) ∧
        ∀ (j : Nat) (c : Value) (b : AV), cs'[j]? = some c → (enc x).cells[j]? = some b → RelT (All W) W c b) (fun i hi => by
      obtain ⟨cs', h1, h2⟩ := hel i (by omega)
      obtain ⟨x, q1, q2, q3, q4⟩ := ho ec W n cs' _ h2
      exact ⟨x, q1, cs', h1, q2, q3, q4⟩)
    have cell : ∀ i, i < len → ∀ j, j < E → ∃ c b, W.cell? ⟨g, o + (i * E + j), none⟩ = some c ∧ (enc (A i)).cells[j]? = some b ∧ RelT (All W) W c b := by
      intro i hi j hj
      obtain ⟨_, cs', h1, h2, _, h4⟩ := hA i hi
      obtain ⟨_, hlen, hget⟩ := World.cells?_some h1
      have hc := hget j hj
      have hcj : cs'[j]? = some (cs'[j]'(by omega)) := List.getElem?_eq_getElem (by omega)
      have hbj : (enc (A i)).cells[j]? = some ((enc (A i)).cells[j]'(by rw [hE1]; exact hj)) := List.getElem?_eq_getElem _
      refine ⟨_, _, ?_, hbj, h4 j _ _ hcj hbj⟩
      rw [hcj, Deep.add_add] at hc
      have e : (⟨g, o + (i * E + j), none⟩ : Addr) = (⟨g, o, none⟩ : Addr).add (i * E + j) := by
        unfold Addr.add
        split
        · rename_i h0; rw [h0]; rfl
        · rfl
      rw [e]
      exact hc
    have hsz : ∀ x ∈ ((List.range len).map A).map enc, x.cells.length = E := by
      intro x hx
      obtain ⟨y, _, rfl⟩ := List.mem_map.1 hx
      exact hE1 y
    have split : ∀ q, q < len * E → q / E < len ∧ q % E < E ∧ q = q / E * E + q % E := by
      intro q hq
      refine ⟨Nat.div_lt_of_lt_mul (by rw [Nat.mul_comm]; exact hq), Nat.mod_lt _ hpos, ?_⟩
      have := Nat.div_add_mod q E
      rw [Nat.mul_comm] at this
      omega
    have hflat : ∀ i, i < len → ∀ j, j < E → (flat (((List.range len).map A).map enc))[i * E + j]? = (enc (A i)).cells[j]? := by
      intro i hi j hj
      exact flat_get _ hsz i j _ (by simp [hi]) hj
    refine ⟨(List.range len).map A, fun x hx => ?_, by simp; unfold maxLen at hm; omega, .sl _ _ _ _ _ ?_⟩
    · obtain ⟨i, hi, rfl⟩ := List.mem_map.1 hx
      exact (hA i (List.mem_range.1 hi)).1
    · have hL : (((List.range len).map A).map enc).length = len := by simp
      have := RelT.lsl (S := All W) (w := W) E (((List.range len).map A).map enc) g o m ((List.range (len * E)).map fun q => (W.cell? ⟨g, o + q, none⟩).getD undef) hlt (by rw [hL]; exact hl) hsz (fun b hb => ?_) (by simp) (fun j c hj => ?_) (fun j c b hj hb => ?_)
      · rw [hL] at this
        exact this
      · obtain ⟨x, hx, hbx⟩ := List.mem_flatMap.1 hb
        obtain ⟨y, hy, rfl⟩ := List.mem_map.1 hx
        obtain ⟨i, hi, rfl⟩ := List.mem_map.1 hy
        obtain ⟨_, _, _, _, h3, _⟩ := hA i (List.mem_range.1 hi)
        exact h3 b hbx
      · have hq : j < len * E := by
          have := (List.getElem?_eq_some_iff.1 hj).1
          simpa using this
        obtain ⟨s1, s2, s3⟩ := split j hq
        obtain ⟨c', b', h1, _, _⟩ := cell _ s1 _ s2
        rw [← s3] at h1
        simp [hq, h1] at hj
        rw [h1, hj]
      · have hq : j < len * E := by
          have := (List.getElem?_eq_some_iff.1 hj).1
          simpa using this
        obtain ⟨s1, s2, s3⟩ := split j hq
        obtain ⟨c', b', h1, h2, h3⟩ := cell _ s1 _ s2
        have hf := hflat _ s1 _ s2
        rw [← s3] at h1 hf
        rw [hf, h2] at hb
        cases hb
        simp [hq, h1] at hj
        subst hj
        exact h3

/-- A contract that says 'true' is the row's. -/
theorem row_of_apure [Tabs] {H : Type} {enc : TypeId × Value → H} {P : Program} {fn : Func} {f : FuncId} {s : ChangeSpec} {W : World} {args : Array Value} {ds : List (DataW H)} {before : List MemPlace} {tb : TypeId}
    (hl : laidOutB P = true) (hsv : s.vars = []) (hW : DataW.Whole enc P fn.params.toList s.vars false W args.toList ds [] before) (hr : ∀ t ∈ fn.params.toList, P.readableRec t = true ∧ t < P.types.size)
    (hres : fn.resultTypes = #[tb]) (htb : P.underlying tb = some .bool) (hspec : s.fn H (ds ++ []) = { results := [.lit (.bool true)], args := ds }) {avs : List AV} (hTb : TabAt (All W) W) (hA : APureV P f avs (.bool true)) (hT : RelTs (All W) W args.toList avs) :
    Calls P f args W fun e W' => ∃ v, e = .returned v ∧ s.post enc P fn false true false false W args v W' := by
  have hW' := hW
  obtain ⟨p, q, hAll, hV, hpq, _, _⟩ := hW
  rw [hsv] at hV
  have hq : q = [] := by simpa [DataW.TrodVars] using hV
  subst hq
  have hlt : ∀ x ∈ p, x.block < W.heap.size := fun x hx => by simpa using hW'.lt x (by rw [hpq]; simp [hx])
  have carry : ∀ (W' : World), Below W.heap.size W W' → ∀ (ts : List TypeId) (vs : List Value) (ds : List (DataW H)) (p : List MemPlace), (∀ t ∈ ts, P.readableRec t = true ∧ t < P.types.size) → (∀ x ∈ p, x.block < W.heap.size) →
      DataW.TrodAll enc P W 0 (fun _ => true) true ts vs ds p → DataW.TrodAll enc P W' 0 (fun b => decide (b < W.heap.size)) true ts vs ds p := by
    intro W' hb ts
    induction ts with
    | nil => intro vs ds p _ _ h; cases vs <;> cases ds <;> first | exact h | exact h.elim
    | cons t ts ih =>
      intro vs ds p ht hlt h
      cases vs with
      | nil => exact h.elim
      | cons v vs => cases ds with
        | nil => exact h.elim
        | cons d ds =>
          obtain ⟨p1, p2, h1, h2, rfl⟩ := h
          exact ⟨p1, p2, Below.trod hl (ht t (by simp)).1 (ht t (by simp)).2 h1 hb (fun x hx => hlt x (by simp [hx])), ih vs ds p2 (fun t h => ht t (by simp [h])) (fun x hx => hlt x (by simp [hx])) h2, rfl⟩
  have hcall := hA.2 (All W) W args.toList (fun _ h => h) hTb hT
  have he : args.toList.toArray = args := by simp
  rw [he] at hcall
  refine hcall.mono fun e W' ⟨us, rs, S', he, hrs, hL⟩ => ?_
  subst hrs
  have hlen := hL.len
  match us, hlen with
  | [u], _ =>
    have hu : RelT S' W' u (.bool true) := hL.rel 0 u _ rfl rfl
    have hub : u = .bool true := by cases hu; rfl
    subst hub
    refine ⟨.bool true, he, ds, [], before, [] ++ [], p, [], hW', ?_, ?_, ?_, hL.below.frame _, fun h => by cases h⟩
    · rw [hspec, hres]
      exact trodAll_mk1 (shut_bool htb _)
    · rw [hspec]
      exact carry W' hL.below _ _ _ _ hr hlt hAll
    · rw [hspec, hsv]
      rfl

end Go.Own
