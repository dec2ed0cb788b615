import Derived.Test.YtkldidgcgioceaaX15
namespace Go.Proofs.Ytkldidgcgioceaa
open Go.Own
set_option maxHeartbeats 1000000

/-- The others are not accelerated. -/
def calm1 (iss : Int) (d : Debt) : Debt := if d.issuer = iss then d else { d with fast := -1 }
def aloneL' (l : List Debt) (iss : Int) (k : Nat) : List Debt := (l.take k).map (calm1 iss) ++ l.drop k
def alone (l : List Debt) (iss : Int) : List Debt := l.map (calm1 iss)

theorem alone_len' (l : List Debt) (iss : Int) (k : Nat) : (aloneL' l iss k).length = l.length := by
  unfold aloneL'
  rw [List.length_append, List.length_map, List.length_take, List.length_drop]
  omega
theorem alone_at' {l : List Debt} {iss : Int} {k : Nat} (hk : k < l.length) : (aloneL' l iss k).getD k d0 = l.getD k d0 := by
  unfold aloneL'
  rw [List.getD_eq_getElem?_getD, List.getElem?_append_right (by rw [List.length_map, List.length_take]; omega), List.length_map, List.length_take, List.getElem?_drop, Nat.min_eq_left (by omega), Nat.sub_self, Nat.add_zero, ← List.getD_eq_getElem?_getD]
theorem alone_succ {l : List Debt} {iss : Int} {k : Nat} (hk : k < l.length) : aloneL' l iss (k + 1) = (aloneL' l iss k).set k (calm1 iss (l.getD k d0)) := by
  unfold aloneL'
  have hl : ((l.take k).map (calm1 iss)).length = k := by rw [List.length_map, List.length_take]; omega
  rw [List.set_append, if_neg (by omega), hl, Nat.sub_self, List.drop_eq_getElem_cons hk, List.set_cons_zero, take_getD (d := d0) hk, List.map_append, List.append_assoc]
  rfl
theorem set_same {l : List Debt} {k : Nat} (hk : k < l.length) : l.set k (l.getD k d0) = l := by
  rw [List.getD_eq_getElem?_getD, List.getElem?_eq_getElem hk]
  exact List.set_getElem_self hk
theorem alone_all (l : List Debt) (iss : Int) : aloneL' l iss l.length = alone l iss := by
  unfold aloneL' alone
  rw [List.take_of_length_le (Nat.le_refl _), List.drop_eq_nil_of_le (Nat.le_refl _), List.append_nil]

def issOf (l : List Debt) (j : Nat) : Int := (l.getD j d0).issuer
theorem alone_get (l : List Debt) (iss : Int) (j : Nat) (hj : j < l.length) : (alone l iss).getD j d0 = calm1 iss (l.getD j d0) := by
  unfold alone
  rw [List.getD_eq_getElem?_getD, List.getElem?_map, List.getElem?_eq_getElem hj, List.getD_eq_getElem?_getD, List.getElem?_eq_getElem hj]
  rfl
theorem alone_len (l : List Debt) (iss : Int) : (alone l iss).length = l.length := List.length_map ..

theorem calm1_issuer (iss : Int) (d : Debt) : (calm1 iss d).issuer = d.issuer ∧ (calm1 iss d).left = d.left ∧ (calm1 iss d).over = d.over := by
  unfold calm1
  split <;> exact ⟨rfl, rfl, rfl⟩
theorem alone_can {l : List Debt} {iss : Int} {i j : Nat} (hi : i < l.length) (hj : j < l.length) : can (alone l iss) i j = can l i j := by
  unfold can
  rw [alone_get l iss i hi, alone_get l iss j hj, (calm1_issuer iss _).1, (calm1_issuer iss _).1, (calm1_issuer iss _).2.2, (calm1_issuer iss _).2.1]
theorem alone_fast {l : List Debt} {iss : Int} {j : Nat} (hj : j < l.length) : fastOf (alone l iss) j = if issOf l j = iss then fastOf l j else -1 := by
  unfold fastOf issOf
  rw [alone_get l iss j hj]
  unfold calm1
  split <;> rfl
theorem can_iss {l : List Debt} {i j : Nat} (h : can l i j = true) : issOf l i = issOf l j ∧ i ≠ j := by
  unfold can at h
  simp only [Bool.and_eq_true, Bool.not_eq_true', decide_eq_true_eq, decide_eq_false_iff_not] at h
  exact ⟨h.1.1.2, h.1.1.1⟩

theorem alone_right {l : List Debt} {iss : Int} (h : rightB l = true) : rightB (alone l iss) = true := by
  unfold rightB at h ⊢
  simp only [Bool.and_eq_true, Bool.not_eq_true'] at h ⊢
  refine ⟨by rw [alone_len]; exact h.1, List.any_eq_false.2 fun x hx => ?_⟩
  obtain ⟨d, hd, rfl⟩ := List.mem_map.1 hx
  have h2 := List.any_eq_false.1 h.2 d hd
  unfold calm1
  split
  · exact h2
  · unfold badD inB at h2 ⊢
    simp only [Bool.or_eq_true, Bool.not_eq_true', Bool.and_eq_false_iff, decide_eq_false_iff_not, not_or, not_and] at h2 ⊢
    omega

/-- Whose day it is. -/
theorem root {l : List Debt} {F : Nat → Option Cau} (h : Sol l F) : ∀ (n : Nat) (j : Nat) (c : Cau), c.round = (n : Int) → F j = some c → ∃ k, k < l.length ∧ issOf l k = issOf l j ∧ fastOf l k = c.day := by
  intro n
  induction n with
  | zero =>
    intro j c hr hc
    obtain ⟨a1, _, _, _, a5⟩ := h.val j c hc
    rcases a5 with ⟨_, _, a5⟩ | ⟨_, p, cp, _, hp, _, hpr, _⟩
    · exact ⟨j, a1, rfl, a5⟩
    · have := (h.val p cp hp).2.2.1
      omega
  | succ n ih =>
    intro j c hr hc
    obtain ⟨a1, _, _, _, a5⟩ := h.val j c hc
    rcases a5 with ⟨_, a5, _⟩ | ⟨_, p, cp, _, hp, hpd, hpr, hpc, _⟩
    · omega
    · obtain ⟨k, k1, k2, k3⟩ := ih p cp (by omega) hp
      exact ⟨k, k1, k2.trans (can_iss hpc).1, k3.trans hpd⟩

theorem alone_sol {l : List Debt} {F : Nat → Option Cau} (h : Sol l F) (iss : Int) : Sol (alone l iss) (fun j => if issOf l j = iss then F j else none) := by
  have hF : ∀ j c, (if issOf l j = iss then F j else none) = some c → issOf l j = iss ∧ F j = some c := fun j c hj => by
    split at hj
    · rename_i e; exact ⟨e, hj⟩
    · cases hj
  refine ⟨fun j c hj => ?_, fun o co j ho hj hcan => ?_, fun j hj hs => ?_⟩
  · obtain ⟨e, hj⟩ := hF j c hj
    obtain ⟨a1, a2, a3, a4, a5⟩ := h.val j c hj
    obtain ⟨k, k1, k2, k3⟩ := root h c.round.toNat j c (by omega) hj
    refine ⟨by rw [alone_len]; exact a1, a2, a3, ⟨a4.1, k, by rw [alone_len]; exact k1, by rw [alone_fast k1, if_pos (k2.trans e)]; exact k3⟩, ?_⟩
    rw [alone_fast a1, if_pos e]
    rcases a5 with a5 | ⟨a5, p, cp, b1, b2, b3, b4, b5, b6⟩
    · exact .inl a5
    · obtain ⟨p1, _⟩ := h.val p cp b2
      have pe : issOf l p = iss := (can_iss b5).1.trans e
      refine .inr ⟨a5, p, cp, b1, by show (if issOf l p = iss then F p else none) = some cp; rw [if_pos pe]; exact b2, b3, b4, by rw [alone_can p1 a1]; exact b5, fun q cq hq hqs hqd hqr => ?_⟩
      obtain ⟨_, hqs⟩ := hF q cq hqs
      rw [alone_can (h.val q cq hqs).1 a1]
      exact b6 q cq hq hqs hqd hqr
  · obtain ⟨e, ho⟩ := hF o co ho
    rw [alone_len] at hj
    rw [alone_can (h.val o co ho).1 hj] at hcan
    have je : issOf l j = iss := (can_iss hcan).1.symm.trans e
    obtain ⟨cj, e1, e2⟩ := h.clo o co j ho hj hcan
    exact ⟨cj, by show (if issOf l j = iss then F j else none) = some cj; rw [if_pos je]; exact e1, e2⟩
  · rw [alone_len] at hj
    have hs0 := hs.1
    rw [alone_fast hj] at hs0 ⊢
    split at hs0
    · rename_i e
      obtain ⟨cj, e1, e2⟩ := h.sat j hj ⟨hs0, j, hj, rfl⟩
      exact ⟨cj, by show (if issOf l j = iss then F j else none) = some cj; rw [if_pos e]; exact e1, by rw [if_pos e]; exact e2⟩
    · omega

def ownL (l : List Debt) (iss : Int) (a : List Cau) : List Cau := a.filter (fun c => decide ((l.getD c.issue.toNat d0).issuer = iss))
theorem own_plain (l : List Debt) (iss : Int) : ownL l iss (closeL l) = closeL (alone l iss) := by
  have hu := sol_uniq (alone_sol (found_sol l) iss) (found_sol (alone l iss))
  refine sorted_same ((close_sorted l).filter _) (close_sorted _) fun c => ?_
  unfold ownL
  rw [List.mem_filter, decide_eq_true_eq, close_mem, close_mem]
  constructor
  · rintro ⟨⟨j, hj⟩, he⟩
    have hi := ((found_sol l).val j c hj).2.1
    rw [hi, Int.toNat_natCast] at he
    refine ⟨j, ?_⟩
    rw [← hu j]
    show (if issOf l j = iss then _ else none) = _
    rw [if_pos (show issOf l j = iss from he)]
    exact hj
  · rintro ⟨j, hj⟩
    rw [← hu j] at hj
    have hj' : (if issOf l j = iss then atF (foundL l) j else none) = some c := hj
    split at hj'
    · rename_i e
      refine ⟨⟨j, hj'⟩, ?_⟩
      rw [((found_sol l).val j c hj').2.1, Int.toNat_natCast]
      exact e
    · cases hj'

/-! ### One debt more -/
theorem app_at {l : List Debt} {m : Debt} {j : Nat} (hj : j < l.length) : (l ++ [m]).getD j d0 = l.getD j d0 := by
  rw [List.getD_eq_getElem?_getD, List.getElem?_append_left hj, ← List.getD_eq_getElem?_getD]
theorem app_last {l : List Debt} {m : Debt} : (l ++ [m]).getD l.length d0 = m := by
  rw [List.getD_eq_getElem?_getD, List.getElem?_append_right (Nat.le_refl _), Nat.sub_self]
  rfl
theorem app_len {l : List Debt} {m : Debt} : (l ++ [m]).length = l.length + 1 := by
  rw [List.length_append]
  rfl
def moreF (l : List Debt) (m : Debt) (F : Nat → Option Cau) (j : Nat) : Option Cau := if j = l.length then (if 0 ≤ m.fast then some ⟨l.length, -1, 0, m.fast⟩ else none) else F j

theorem more_sol {l : List Debt} {F : Nat → Option Cau} (h : Sol l F) (m : Debt) (hne : ∀ j, j < l.length → issOf l j ≠ m.issuer) : Sol (l ++ [m]) (moreF l m F) := by
  have hn : ∀ j c, F j = some c → j < l.length := fun j c hj => (h.val j c hj).1
  have cold : ∀ i j, i < l.length → j < l.length → can (l ++ [m]) i j = can l i j := fun i j hi hj => by
    unfold can
    rw [app_at hi, app_at hj]
  have cnew1 : ∀ i, i < l.length → can (l ++ [m]) i l.length = false := fun i hi => by
    cases hc : can (l ++ [m]) i l.length with
    | false => rfl
    | true =>
      have := (can_iss hc).1
      unfold issOf at this
      rw [app_at hi, app_last] at this
      exact absurd this (hne i hi)
  have cnew2 : ∀ j, j < l.length + 1 → can (l ++ [m]) l.length j = false := fun j hj => by
    cases hc : can (l ++ [m]) l.length j with
    | false => rfl
    | true =>
      obtain ⟨h1, h2⟩ := can_iss hc
      have hj' : j < l.length := by omega
      unfold issOf at h1
      rw [app_last, app_at hj'] at h1
      exact absurd h1.symm (hne j hj')
  have fold' : ∀ j, j < l.length → fastOf (l ++ [m]) j = fastOf l j := fun j hj => by
    unfold fastOf
    rw [app_at hj]
  have flast : fastOf (l ++ [m]) l.length = m.fast := by
    unfold fastOf
    rw [app_last]
  have old : ∀ j, j < l.length → moreF l m F j = F j := fun j hj => if_neg (by omega)
  have sp : ∀ j c, moreF l m F j = some c → (j < l.length ∧ F j = some c) ∨ (j = l.length ∧ 0 ≤ m.fast ∧ c = ⟨l.length, -1, 0, m.fast⟩) := fun j c hj => by
    unfold moreF at hj
    split at hj
    · rename_i e
      split at hj
      · rename_i e2
        cases hj
        exact .inr ⟨e, e2, rfl⟩
      · cases hj
    · exact .inl ⟨hn j c hj, hj⟩
  refine ⟨fun j c hj => ?_, fun o co j ho hj hcan => ?_, fun j hj hs => ?_⟩
  · rcases sp j c hj with ⟨hjl, hj⟩ | ⟨rfl, h0, rfl⟩
    · obtain ⟨a1, a2, a3, ⟨a4, k, k1, k2⟩, a5⟩ := h.val j c hj
      refine ⟨by rw [app_len]; omega, a2, a3, ⟨a4, k, by rw [app_len]; omega, by rw [fold' k k1]; exact k2⟩, ?_⟩
      rw [fold' j hjl]
      rcases a5 with a5 | ⟨a5, p, cp, b1, b2, b3, b4, b5, b6⟩
      · exact .inl a5
      · have p1 := hn p cp b2
        refine .inr ⟨a5, p, cp, b1, by rw [old p p1]; exact b2, b3, b4, by rw [cold p j p1 hjl]; exact b5, fun q cq hq hqs hqd hqr => ?_⟩
        rcases sp q cq hqs with ⟨hql, hqs⟩ | ⟨e, _, _⟩
        · rw [cold q j hql hjl]
          exact b6 q cq hq hqs hqd hqr
        · omega
    · exact ⟨by rw [app_len]; omega, rfl, Int.le_refl _, ⟨h0, l.length, by rw [app_len]; omega, flast⟩, .inl ⟨rfl, rfl, flast⟩⟩
  · rw [app_len] at hj
    rcases sp o co ho with ⟨hol, ho⟩ | ⟨rfl, _, _⟩
    · by_cases e : j = l.length
      · subst e
        rw [cnew1 o hol] at hcan
        cases hcan
      · have hjl : j < l.length := by omega
        rw [cold o j hol hjl] at hcan
        obtain ⟨cj, e1, e2⟩ := h.clo o co j ho hjl hcan
        exact ⟨cj, by rw [old j hjl]; exact e1, e2⟩
    · rw [cnew2 j hj] at hcan
      cases hcan
  · rw [app_len] at hj
    by_cases e : j = l.length
    · subst e
      rw [flast] at hs ⊢
      refine ⟨⟨l.length, -1, 0, m.fast⟩, ?_, Int.le_refl _⟩
      unfold moreF
      rw [if_pos rfl, if_pos hs.1]
    · have hjl : j < l.length := by omega
      rw [fold' j hjl] at hs ⊢
      obtain ⟨cj, e1, e2⟩ := h.sat j hjl ⟨hs.1, j, hjl, rfl⟩
      exact ⟨cj, by rw [old j hjl]; exact e1, e2⟩

theorem more_plain (l : List Debt) (m : Debt) (hne : ∀ j, j < l.length → issOf l j ≠ m.issuer) : closeL (l ++ [m]) = if 0 ≤ m.fast then closeL l ++ [⟨l.length, -1, 0, m.fast⟩] else closeL l := by
  have hu := sol_uniq (found_sol (l ++ [m])) (more_sol (found_sol l) m hne)
  have h1 : closeL (l ++ [m]) = outL (foundL (l ++ [m])) (l.length + 1) := by
    unfold closeL
    rw [app_len]
  have h2 : ∀ n, n ≤ l.length → outL (foundL (l ++ [m])) n = outL (foundL l) n := by
    intro n
    induction n with
    | zero => intro _; rfl
    | succ n ih =>
      intro hn
      rw [outL_succ, outL_succ, ih (by omega)]
      congr 2
      have := hu n
      unfold moreF at this
      rw [if_neg (by omega)] at this
      exact this
  rw [h1, outL_succ, h2 _ (Nat.le_refl _)]
  have := hu l.length
  unfold moreF at this
  rw [if_pos rfl] at this
  have e : mget (foundL (l ++ [m])) (l.length : Int) = if 0 ≤ m.fast then some ⟨l.length, -1, 0, m.fast⟩ else none := this
  rw [e]
  split
  · rfl
  · rw [Option.toList_none, List.append_nil]
    rfl

end Go.Proofs.Ytkldidgcgioceaa
