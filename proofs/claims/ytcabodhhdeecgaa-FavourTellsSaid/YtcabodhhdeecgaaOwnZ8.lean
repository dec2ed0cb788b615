/-
  slices.Sort and slices.Compact over a row of ints of the caller's own.
-/
import Derived.Test.YtcabodhhdeecgaaOwnY
import Derived.Shelf.SortM.Plain
import Derived.Shelf.SortM.SortNone
import Derived.Shelf.Slices.CompactI
import Derived.Lib.SlKeysI
namespace Go.Own
open Go.Proofs Go.Shelf Go.RowKit Go.Sort

def leZ (a b : Int) : Bool := decide (a ≤ b)

theorem row_ints {S : Blocks} {w : World} {e : TypeId} {enc : Int → AV} {xs : List Int} {v : Value} {vs : List Value} (henc : ∀ x, enc x = .int .i64 x) (h : RowRel S w e 1 (xs.map enc) v vs) : vs = xs.map (Value.int .i64) := by
  have hlen := h.owns.1
  simp at hlen
  apply List.ext_getElem?
  intro j
  by_cases hj : j < vs.length
  · have hjx : j < xs.length := by omega
    have h1 : vs[j]? = some vs[j] := List.getElem?_eq_getElem hj
    have h2 : (flat (xs.map enc))[j]? = some (.int .i64 xs[j]) := by
      have : flat (xs.map enc) = xs.map (AV.int .i64) := by
        unfold flat
        rw [List.flatMap_map]
        clear hlen h h1 hjx hj
        induction xs with
        | nil => rfl
        | cons x xs ih => rw [List.flatMap_cons, ih, henc]; rfl
      rw [this, List.getElem?_map, List.getElem?_eq_getElem hjx]
      rfl
    have := h.rel j _ _ h1 h2
    rw [h1, List.getElem?_map, List.getElem?_eq_getElem hjx]
    cases hv : vs[j] with
    | int k n => rw [hv] at this; cases this; rfl
    | _ => rw [hv] at this; cases this
  · rw [List.getElem?_eq_none (by omega), List.getElem?_eq_none (by simp; omega)]

theorem rowRel_ints {S : Blocks} {w : World} {e : TypeId} {enc : Int → AV} {xs : List Int} {v : Value} (henc : ∀ x, enc x = .int .i64 x) (h : w.ownsRow 0 e 1 v xs.length (xs.map (Value.int .i64))) : RowRel S w e 1 (xs.map enc) v (xs.map (Value.int .i64)) := by
  have hf : flat (xs.map enc) = xs.map (AV.int .i64) := by
    unfold flat
    rw [List.flatMap_map]
    clear h
    induction xs with
    | nil => rfl
    | cons x xs ih => rw [List.flatMap_cons, ih, henc]; rfl
  refine ⟨by simpa using h, fun x hx => ?_, fun a ha => ?_, fun j c a hj ha => ?_⟩
  · obtain ⟨y, _, rfl⟩ := List.mem_map.1 hx
    rw [henc]
    rfl
  · rw [hf] at ha
    obtain ⟨y, _, rfl⟩ := List.mem_map.1 ha
    rfl
  · rw [hf] at ha
    rw [List.getElem?_map, Option.map_eq_some_iff] at hj ha
    obtain ⟨y, hy, rfl⟩ := hj
    obtain ⟨z, hz, rfl⟩ := ha
    rw [hy] at hz
    cases hz
    exact .int _ _

theorem ext_same [Tabs] {m : Ids} {S : Blocks} {w : World} {H H' : Heap} {nx : Nat} (h : Good m S w H) (he : ∀ id, lkH H' id = lkH H id) : Ext m S w H nx nx m S w H' := by
  have hG : Good m S w H' := ⟨fun id => by rw [he]; exact h.rel id, fun i j vi vj k hi hj => h.sep i j vi vj k (by rw [← he]; exact hi) (by rw [← he]; exact hj), fun g hg => ⟨(h.ro g hg).1, fun i v hl => (h.ro g hg).2 i v (by rw [← he]; exact hl)⟩, h.tab⟩
  exact ⟨fun _ _ h => h, fun _ _ => rfl, fun _ h => h, fun _ h => .inl h, Far.refl _ _, fun k ⟨i, v, hl, hv, hk⟩ => .inl ⟨i, v, by rw [← he]; exact hl, hv, hk⟩, hG⟩

theorem own_ints [Tabs] {m : Ids} {S : Blocks} {w : World} {H : Heap} {id : Nat} {e : TypeId} {enc : Int → AV} {d : Int} {xs : List Int} {v : Value} (henc : ∀ x, enc x = .int .i64 x) (hG : Good m S w H) (hid : lkH H id = .row e 1 enc d xs) (hv : RelV m S w v (.own id)) :
    m id = some v ∧ ((v = .slice none 0 0 ∧ xs = []) ∨ ∃ g cap cur, v = .slice (some ⟨g, 0, none⟩) xs.length cap ∧ w.heap[g]? = some (.cells cur e (0, 0)) ∧ xs.length ≤ cap ∧ cap ≤ maxLen ∧ cur.size = cap * 1 ∧ cur.toList.take xs.length = xs.map (Value.int .i64)) := by
  have hb := hG.rel id
  rw [hid] at hb
  obtain ⟨v', vs, hmi, hrow⟩ := hb
  cases hv with
  | t _ _ h => cases h
  | own id n cap a hm =>
    rw [hmi] at hm
    cases hm
    refine ⟨hmi, ?_⟩
    have hvs := row_ints henc hrow
    rcases hrow.owns.2 with ⟨h0, h1⟩ | ⟨g, cap', cur, h0, _, h2, h3, h4, h5, h6⟩
    · left
      refine ⟨h0, ?_⟩
      have : (xs.map enc).length = 0 := h1
      exact List.eq_nil_of_length_eq_zero (by simpa using this)
    · right
      rw [h0]
      refine ⟨g, cap', cur, by simp, h2, by simpa using h3, h4, h5, ?_⟩
      rw [← hvs, ← h6]
      simp

theorem put_ext [Tabs] {m : Ids} {S : Blocks} {w : World} {H : Heap} {nx id q : Nat} {e : TypeId} {enc : Int → AV} {d : Int} {xs ys : List Int} {v : Value} {g cap : Nat} {cur : Array Value} {os : Array Obj} (henc : ∀ x, enc x = .int .i64 x) (hG : Good m S w H) (hid : lkH H id = .row e 1 enc d xs) (hmi : m id = some v)
    (hv : v = .slice (some ⟨g, 0, none⟩) xs.length cap) (hg : w.heap[g]? = some (.cells cur e (0, 0))) (h1 : xs.length ≤ cap) (h2 : cap ≤ maxLen) (h3 : cur.size = cap * 1) (hl : ys.length = xs.length) :
    Ext m S w H nx nx m S (grow (putRow encZ (Sort.ahead w q) g 0 ys.toArray) os) ((id, .row e 1 enc d ys) :: H) := by
  have hlive : (lkH H id).live = true := by rw [hid]; rfl
  have hgb := grownBy_sorted_i (w := w) (g := g) (n := q) (os := os) ys.toArray
  refine ext_upd hG hlive hmi (k0 := g) (by rw [hv]; rfl) _ _ hgb.os hgb.tape hgb.output hgb.size (fun k hk hne => hgb.block k hk (fun e => hne (by cases e; rfl))) ?_
  have hown := ownsRow_sorted_i (base := 0) (n := q) (os := os) hl (Nat.zero_le _) hg h1 h2 h3
  rw [← hl] at hown
  exact ⟨v, _, hmi, by
    rw [hv, ← hl]
    exact rowRel_ints henc hown⟩

theorem sortI_sem [Tabs] {P : Program} {ρ : Shelf.Ren} (L : SlLaysM.n5 P ρ) (hfn : FnOk P (ρ.f 5)) {H : Heap} {nx id : Nat} {e : TypeId} {enc : Int → AV} {d : Int} {xs : List Int} (henc : ∀ x, enc x = .int .i64 x) (hid : lkH H id = .row e 1 enc d xs) (hmax : xs.length ≤ 1000000) :
    CallSem P (ρ.f 5) [.own id] H nx [id] (fun r => r = ⟨.tup [], [id], [(id, .row e 1 enc d (xs.mergeSort leZ))], nx⟩) := by
  refine ⟨hfn, fun m S w H₂ vs hG ht hfree hlen hrel => ?_⟩
  match vs, hlen with
  | [v], _ =>
    have hid2 : lkH H₂ id = .row e 1 enc d xs := by rw [ht id (by simp)]; exact hid
    obtain ⟨hmi, h⟩ := own_ints henc hG hid2 (hrel 0 v _ rfl rfl)
    rcases h with ⟨hv, hx⟩ | ⟨g, cap, cur, hv, hg, h1, h2, h3, h4⟩
    · subst hx
      subst hv
      refine (AnyM.slices_Sort_int_none L none 0 w).mono ?_
      rintro e' w' ⟨rfl, rfl⟩
      refine ⟨_, _, m, S, rfl, rfl, ext_same hG (fun i => ?_), .t _ _ (.tup #[] [] rfl fun j c a hj => by simp at hj)⟩
      show lkH ((id, _) :: H₂) i = _
      rw [lkH_cons]
      split
      · rename_i hi
        subst hi
        rw [hid2, List.mergeSort_nil]
      · rfl
    · have hH : Holds encZ w g 0 xs.toArray := holds_of_block_i hg (by rw [h4])
      have hgl : g < w.heap.size := (Array.getElem?_eq_some_iff.1 hg).1
      have hcall := AnyM.slices_Sort_int L g 0 cap xs w hH hgl (by omega)
      rw [← hv] at hcall
      refine hcall.mono ?_
      rintro e' w' ⟨rfl, q, os, rfl⟩
      refine ⟨_, _, m, S, rfl, rfl, ?_, .t _ _ (.tup #[] [] rfl fun j c a hj => by simp at hj)⟩
      exact put_ext henc hG hid2 hmi hv hg h1 h2 h3 (List.length_mergeSort _)

theorem compact_len (xs : List Int) : (Lib.compact xs).length ≤ xs.length := by
  unfold Lib.compact Lib.compactUpTo
  rw [List.length_map]
  exact Nat.le_trans (List.length_filter_le _ _) (by rw [List.length_range]; exact Nat.le_refl _)

theorem compactI_sem [Tabs] {P : Program} {ρ : Shelf.Ren} (L : Lays2.n20 P ρ) (hfn : FnOk P (ρ.f 20)) {H : Heap} {nx id : Nat} {e : TypeId} {enc : Int → AV} {d : Int} {xs : List Int} (henc : ∀ x, enc x = .int .i64 x) (hid : lkH H id = .row e 1 enc d xs) (hmax : xs.length ≤ 1000000) :
    CallSem P (ρ.f 20) [.own id] H nx [id] (fun r => r = ⟨.pre id (Lib.compact xs).length, [id], [(id, .row e 1 enc d (Lib.compact xs ++ List.replicate (xs.length - (Lib.compact xs).length) 0))], nx⟩) := by
  refine ⟨hfn, fun m S w H₂ vs hG ht hfree hlen hrel => ?_⟩
  have hcl := compact_len xs
  match vs, hlen with
  | [v], _ =>
    have hid2 : lkH H₂ id = .row e 1 enc d xs := by rw [ht id (by simp)]; exact hid
    obtain ⟨hmi, h⟩ := own_ints henc hG hid2 (hrel 0 v _ rfl rfl)
    rcases h with ⟨hv, hx⟩ | ⟨g, cap, cur, hv, hg, h1, h2, h3, h4⟩
    · subst hx
      subst hv
      refine (Any.slices_Compact_int_empty L none 0 w).mono ?_
      rintro e' w' ⟨rfl, rfl⟩
      refine ⟨_, _, m, S, rfl, rfl, ext_same hG (fun i => ?_), .pre id 0 0 0 none hmi (Nat.le_refl _)⟩
      show lkH ((id, _) :: H₂) i = _
      rw [lkH_cons]
      split
      · rename_i hi
        subst hi
        rw [hid2]
        rfl
      · rfl
    · have hH : Holds encZ w g 0 xs.toArray := holds_of_block_i hg (by rw [h4])
      have hcall := Any.slices_Compact_int L g 0 cap xs w hH (by omega) h1
      rw [← hv] at hcall
      refine hcall.mono ?_
      rintro e' w' ⟨rfl, q, rfl⟩
      refine ⟨_, _, m, S, rfl, rfl, ?_, .pre id _ xs.length cap (some ⟨g, 0, none⟩) (by rw [← hv]; exact hmi) hcl⟩
      have := put_ext (q := q) (os := #[]) (ys := Lib.compact xs ++ List.replicate (xs.length - (Lib.compact xs).length) 0) (nx := nx) henc hG hid2 hmi hv hg h1 h2 h3 (by rw [List.length_append, List.length_replicate]; omega)
      rw [grow_empty] at this
      exact this

end Go.Own
