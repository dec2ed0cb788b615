import Derived.Test.YtpkendnpabjgoaaR20
namespace Go.Proofs.Ytpkendnpabjgoaa
open Go.Own
set_option maxHeartbeats 1000000

theorem derTo_at (facts : List Int) (s : Int) (l : List Val) : ∀ n i, i < n → (derTo facts s l n).getD i 0 = derAt facts s (derTo facts s l i) i (l.getD i v0)
  | 0, i, h => by omega
  | n + 1, i, h => by
    have hl := derTo_len facts s l n
    show (derTo facts s l n ++ [_]).getD i 0 = _
    by_cases e : i = n
    · subst e
      rw [List.getD_eq_getElem?_getD, List.getElem?_append_right (by omega), hl, Nat.sub_self]
      rfl
    · rw [List.getD_eq_getElem?_getD, List.getElem?_append_left (by omega), ← List.getD_eq_getElem?_getD]
      exact derTo_at facts s l n i (by omega)
theorem fold_fact {facts : List Int} {s : Int} : ∀ {xs : List Int} {n : Int}, (∀ x ∈ xs, hasL facts x = false) → xs.foldl (derFact facts 0) n = xs.foldl (derFact facts s) n
  | [], _, _ => rfl
  | x :: xs, n, h => by
    have hx := h x List.mem_cons_self
    have e : derFact facts 0 n x = derFact facts s n x := by
      unfold derFact
      rw [hx]
      rfl
    rw [List.foldl_cons, List.foldl_cons, e]
    exact fold_fact fun y hy => h y (List.mem_cons_of_mem _ hy)
theorem fold_from {D D' : List Int} : ∀ {xs : List Int} {n : Int}, (∀ x ∈ xs, D.getD x.toNat 0 = D'.getD x.toNat 0) → xs.foldl (derFrom D) n = xs.foldl (derFrom D') n
  | [], _, _ => rfl
  | x :: xs, n, h => by
    have hx := h x List.mem_cons_self
    have e : derFrom D n x = derFrom D' n x := by
      unfold derFrom
      rw [hx]
    rw [List.foldl_cons, List.foldl_cons, e]
    exact fold_from fun y hy => h y (List.mem_cons_of_mem _ hy)

theorem keeps_plain {l : List Val} {facts : List Int} {shift more : Int} (hR : rightB l = true) : (∀ i, i < l.length → hasL (trues (chRow facts l)) (i : Nat) = false → (derTo facts 0 l l.length).getD i 0 = (derTo facts shift l l.length).getD i 0) ∧
      (∀ i, i < (trues (chRow facts l)).length → hasL (trues (chRow (facts ++ [more]) l)) ((trues (chRow facts l)).getD i 0) = true) ∧ trues (chRow [] l) = [] := by
  refine ⟨?_, ?_, ?_⟩
  · have main : ∀ n i, i < n → i < l.length → (chRow facts l).getD i false = false → (derTo facts 0 l l.length).getD i 0 = (derTo facts shift l l.length).getD i 0 := by
      intro n
      induction n with
      | zero => intro i h; omega
      | succ n ih =>
        intro i hin hi hc
        rw [chRow_at hR hi, Bool.or_eq_false_iff] at hc
        rw [derTo_at facts 0 l _ i hi, derTo_at facts shift l _ i hi]
        unfold derAt derF
        rw [fold_fact (s := shift) (fun x hx => by simpa using List.any_eq_false.1 hc.1 x hx)]
        refine fold_from fun x hx => ?_
        have hxl := froms_lt hR hi x hx
        have h1 := ih x.toNat (by omega) (by omega) (by simpa using List.any_eq_false.1 hc.2 x hx)
        rw [derTo_at facts 0 l _ x.toNat (by omega), derTo_at facts shift l _ x.toNat (by omega)] at h1
        rw [derTo_at facts 0 l i x.toNat (by omega), derTo_at facts shift l i x.toNat (by omega)]
        exact h1
    intro i hi hc
    rw [hasL_trues] at hc
    exact main (i + 1) i (by omega) hi hc
  · have main : ∀ n i, i < n → i < l.length → (chRow facts l).getD i false = true → (chRow (facts ++ [more]) l).getD i false = true := by
      intro n
      induction n with
      | zero => intro i h; omega
      | succ n ih =>
        intro i hin hi hc
        rw [chRow_at hR hi, Bool.or_eq_true] at hc ⊢
        rcases hc with hc | hc
        · left
          obtain ⟨x, hx, h⟩ := List.any_eq_true.1 hc
          refine List.any_eq_true.2 ⟨x, hx, ?_⟩
          rw [hasL_iff] at h ⊢
          exact List.mem_append.2 (.inl h)
        · right
          obtain ⟨x, hx, h⟩ := List.any_eq_true.1 hc
          have hxl := froms_lt hR hi x hx
          exact List.any_eq_true.2 ⟨x, hx, ih x.toNat (by omega) (by omega) h⟩
    intro i hi
    obtain ⟨k, hk, hkt, he⟩ := trues_mem.1 (getD_mem (d := 0) hi)
    rw [chRow_len] at hk
    rw [he, hasL_trues]
    exact main (k + 1) k (by omega) hk hkt
  · have main : ∀ n i, i < n → i < l.length → (chRow [] l).getD i false = false := by
      intro n
      induction n with
      | zero => intro i h; omega
      | succ n ih =>
        intro i hin hi
        rw [chRow_at hR hi, Bool.or_eq_false_iff]
        refine ⟨List.any_eq_false.2 fun x _ => by simp [hasL], List.any_eq_false.2 fun x hx => ?_⟩
        have hxl := froms_lt hR hi x hx
        rw [ih x.toNat (by omega) (by omega)]
        exact Bool.noConfusion
    refine List.eq_nil_iff_forall_not_mem.2 fun x hx => ?_
    obtain ⟨k, hk, hkt, he⟩ := trues_mem.1 hx
    rw [chRow_len] at hk
    rw [main (k + 1) k (by omega) hk] at hkt
    cases hkt

end Go.Proofs.Ytpkendnpabjgoaa
