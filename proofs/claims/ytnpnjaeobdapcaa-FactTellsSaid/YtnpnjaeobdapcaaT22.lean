import Derived.Test.YtnpnjaeobdapcaaT21
import Derived.Test.YtnpnjaeobdapcaaT15
namespace Go.Proofs.Ytnpnjaeobdapcaa
open Go.Own Go.Proofs
set_option maxHeartbeats 1000000
set_option maxRecDepth 100000

theorem known2n_ok (l : List Fact) (hl : Fits l) (issuer period day : Int) (hR : rightB l = false) :
    APure Try.prog 16 [encFs l, .int .i64 issuer, .int .i64 period, .int .i64 day] (fun rs => rs = [.val .nils, .val .nils]) := by
  refine apure_of (C := cx 124 [0, 1, 2, 3, 8, 9, 10, 11, 12, 13, 14, 15, 16, 17, 18, 27, 49, 53, 65, 82, 103]) (cxOk _ _) Try.func16 rfl (by decide) rfl (by exact Nat.le_of_ble_eq_true rfl) (by decide) ?_
  conv => whnf
  refine loop_up (cxOk _ _) 0 (fun _ => True) (fun k => ⟨[(0, encFs l), (1, .int .i64 issuer), (2, .int .i64 period), (3, .int .i64 day), (10, .nils), (11, .int .i64 (k : Nat))], [], 0⟩) trivial (wk_of [] rfl ⟨.base (.tree _ _ rfl rfl), .base (.tree _ _ rfl rfl), .base (.tree _ _ rfl rfl), .base (.tree _ _ rfl rfl), .base (.tree _ _ rfl rfl), .base (.tree _ _ rfl rfl), trivial⟩ trivial) ?_
  intro k hk _
  conv => whnf
  refine .one _ _ _ (fun _ => right2_ok l hl) (by repeat (first | exact .nil | (apply BorL.cons; first | exact lS rfl | exact lR rfl | exact lM rfl rfl | exact lL rfl | exact lX rfl | exact lN | exact lNl | exact lSm rfl | exact lIm rfl | exact lP rfl | exact lQ rfl))) (by first | exact .inl rfl | exact .inr (by repeat (first | exact flats_nil | refine flats_cons (by first | exact flat_val _ rfl | exact flat_row (fun _ => rfl) | exact flat_lst (fun _ => rfl)) ?_))) (by first | exact .inl rfl | exact .inr rfl) ?_
  conv => whnf
  rw [hR]
  refine ⟨fun hc => ?_, fun hc => ?_⟩
  · exfalso
    have hc' : (decide ((k : Int) < l.length) && false) = true := hc
    simp at hc'
  · conv => whnf
    refine loop_up (cxOk _ _) 0 (fun _ => True) (fun j => ⟨[(0, encFs l), (1, .int .i64 issuer), (2, .int .i64 period), (3, .int .i64 day), (10, .nils), (16, .nils), (17, .int .i64 (j : Nat))], [], 0⟩) trivial (wk_of [] rfl ⟨.base (.tree _ _ rfl rfl), .base (.tree _ _ rfl rfl), .base (.tree _ _ rfl rfl), .base (.tree _ _ rfl rfl), .base (.tree _ _ rfl rfl), .base (.tree _ _ rfl rfl), .base (.tree _ _ rfl rfl), trivial⟩ trivial) ?_
    intro j hj _
    conv => whnf
    refine ⟨fun he => ?_, fun he => ?_⟩
    · exfalso
      simp only [decide_eq_true_eq] at he
      omega
    · conv => whnf
      rfl

theorem mget_some' {K V : Type} [DecidableEq K] : ∀ {m : List (K × V)} {k : K}, (mget m k).isSome = true ↔ ∃ v, (k, v) ∈ m
  | [], k => by simp [mget]
  | (a, v) :: m, k => by
    have ih := @mget_some' K V _ m k
    by_cases h : a = k
    · subst h
      simp [mget]
    · have h' : ¬ k = a := fun e => h e.symm
      simp only [mget, if_neg h, List.mem_cons, Prod.mk.injEq, h', false_and, false_or]
      exact ih

theorem keysS_pair' {V : Type} {es : List (List UInt8 × V)} (hnd : (es.map (·.1)).Nodup) : (keysS es).Pairwise (fun x y => x < y) := by
  have h1 : (keysS es).Pairwise (fun x y => decide (x ≤ y) = true) := List.pairwise_mergeSort (fun a b c h1 h2 => by simp only [decide_eq_true_eq] at *; exact List.le_trans h1 h2) (fun a b => by simp only [Bool.or_eq_true, decide_eq_true_eq]; exact List.le_total a b) _
  have h2 : (keysS es).Nodup := (List.mergeSort_perm _ _).nodup_iff.2 hnd
  refine (h1.and h2).imp fun {a b} h => ?_
  obtain ⟨h3, h4⟩ := h
  simp only [decide_eq_true_eq] at h3
  exact Decidable.byContradiction fun h5 => h4 (List.le_antisymm h3 h5)

/-- Two strictly ascending rows of the same names are one. -/
theorem asc_eq {a b : List (List UInt8)} (ha : a.Pairwise (fun x y => x < y)) (hb : b.Pairwise (fun x y => x < y)) (hm : ∀ x, x ∈ a ↔ x ∈ b) : a = b := by
  have hna : a.Nodup := ha.imp fun {x y} h e => by subst e; exact List.lt_irrefl _ h
  have hnb : b.Nodup := hb.imp fun {x y} h e => by subst e; exact List.lt_irrefl _ h
  have hp : a.Perm b := (List.perm_ext_iff_of_nodup hna hnb).2 hm
  exact List.Perm.eq_of_pairwise (le := fun x y => x < y) (fun x y _ _ h1 h2 => (List.lt_irrefl _ (List.lt_trans h1 h2)).elim) ha hb hp

theorem atN_spec {ns : List (List UInt8)} {x : List UInt8} : ∀ n, (∀ j, atN ns x n ≤ j → j < n → ¬ (ns.getD j []) < x) ∧ (0 < atN ns x n → (ns.getD (atN ns x n - 1) []) < x)
  | 0 => ⟨fun j _ h => by omega, fun h => by simp [atN] at h⟩
  | n + 1 => by
    obtain ⟨h1, h2⟩ := @atN_spec ns x n
    by_cases h : Op.bytesLess (ns.getD n []) x = true
    · have e : atN ns x (n + 1) = n + 1 := by unfold atN; rw [if_pos h]
      rw [e]
      rw [bytesLess_eq] at h
      exact ⟨fun j h3 h4 => by omega, fun _ => of_decide_eq_true h⟩
    · have e : atN ns x (n + 1) = atN ns x n := by conv => lhs; unfold atN
                                                   rw [if_neg h]
      rw [e]
      rw [bytesLess_eq] at h
      refine ⟨fun j h3 h4 => ?_, h2⟩
      by_cases h5 : j < n
      · exact h1 j h3 h5
      · have : j = n := by omega
        subst this
        simpa using h

theorem insN_mem {ns : List (List UInt8)} {x y : List UInt8} : y ∈ insN ns x ↔ y ∈ ns ∨ y = x := by
  unfold insN
  split
  · rename_i h
    obtain ⟨n, h1, h2⟩ := List.any_eq_true.1 h
    simp only [decide_eq_true_eq] at h2
    subst h2
    exact ⟨.inl, fun h => h.elim id fun e => by rw [e]; exact h1⟩
  · conv => rhs; rw [← List.take_append_drop (atN ns x ns.length) ns]
    simp only [List.mem_append, List.mem_singleton]
    constructor
    · rintro ((h | h) | h) <;> simp [h]
    · rintro ((h | h) | h) <;> simp [h]

theorem insN_asc {ns : List (List UInt8)} {x : List UInt8} (h : ns.Pairwise (fun x y => x < y)) : (insN ns x).Pairwise (fun x y => x < y) := by
  unfold insN
  split
  · exact h
  · rename_i hx
    have hle := atN_le ns x ns.length
    obtain ⟨h1, h2⟩ := @atN_spec ns x ns.length
    generalize atN ns x ns.length = at1 at *
    have hidx := List.pairwise_iff_getElem.1 h
    have hlo : ∀ y ∈ ns.take at1, y < x := by
      intro y hy
      obtain ⟨j, hj, rfl⟩ := List.mem_take_iff_getElem.1 hy
      have hj1 : j < at1 := by omega
      have h3 := h2 (by omega)
      rw [List.getD, List.getElem?_eq_getElem (show at1 - 1 < ns.length by omega)] at h3
      by_cases e : j = at1 - 1
      · subst e; exact h3
      · exact List.lt_trans (hidx j (at1 - 1) (by omega) (by omega) (by omega)) h3
    have hhi : ∀ y ∈ ns.drop at1, x < y := by
      intro y hy
      obtain ⟨j, hj, rfl⟩ := List.mem_drop_iff_getElem.1 hy
      have h3 := h1 (at1 + j) (by omega) (by omega)
      rw [List.getD, List.getElem?_eq_getElem (show at1 + j < ns.length by omega)] at h3
      have hne : ns[at1 + j]'(by omega) ≠ x := by
        intro e
        apply hx
        exact List.any_eq_true.2 ⟨_, List.getElem_mem (show at1 + j < ns.length by omega), by simp [e]⟩
      have h3' : ¬ ns[at1 + j]'(by omega) < x := h3
      have : x ≤ ns[at1 + j]'(by omega) := h3'
      exact Decidable.byContradiction fun h5 => hne (List.le_antisymm h5 this)
    rw [List.pairwise_append, List.pairwise_append]
    refine ⟨⟨h.sublist (List.take_sublist _ _), by simp, fun a ha b hb => ?_⟩, h.sublist (List.drop_sublist _ _), fun a ha b hb => ?_⟩
    · rw [List.mem_singleton.1 hb]; exact hlo a ha
    · rcases List.mem_append.1 ha with ha | ha
      · exact List.lt_trans (hlo a ha) (hhi b hb)
      · rw [List.mem_singleton.1 ha]; exact hhi b hb

theorem names2_inv (l : List Fact) (issuer period day : Int) : ∀ (r : List Fact) (ns : List (List UInt8)), ns.Pairwise (fun x y => x < y) →
    (r.foldl (stepN l issuer period day) ns).Pairwise (fun x y => x < y) ∧ ∀ y, y ∈ r.foldl (stepN l issuer period day) ns ↔ y ∈ ns ∨ ∃ f ∈ r, f.name = y ∧ (best issuer f.name period day l).isSome = true ∧ f.issuer = issuer
  | [], ns, h => ⟨h, fun y => by simp⟩
  | f :: r, ns, h => by
    have hs : (stepN l issuer period day ns f).Pairwise (fun x y => x < y) := by
      unfold stepN
      split
      · exact insN_asc h
      · exact h
    obtain ⟨h1, h2⟩ := names2_inv l issuer period day r _ hs
    refine ⟨h1, fun y => ?_⟩
    rw [List.foldl_cons, h2 y]
    have hm : y ∈ stepN l issuer period day ns f ↔ y ∈ ns ∨ (f.name = y ∧ (best issuer f.name period day l).isSome = true ∧ f.issuer = issuer) := by
      unfold stepN
      split
      · rename_i hc
        rw [insN_mem]
        constructor
        · rintro (h | h)
          · exact .inl h
          · exact .inr ⟨h.symm, hc⟩
        · rintro (h | ⟨h, _⟩)
          · exact .inl h
          · exact .inr h.symm
      · rename_i hc
        constructor
        · exact .inl
        · rintro (h | ⟨_, h⟩)
          · exact h
          · exact (hc h).elim
    rw [hm]
    constructor
    · rintro ((h | h) | ⟨g, hg, h⟩)
      · exact .inl h
      · exact .inr ⟨f, by simp, h⟩
      · exact .inr ⟨g, by simp [hg], h⟩
    · rintro (h | ⟨g, hg, h⟩)
      · exact .inl (.inl h)
      · rcases List.mem_cons.1 hg with rfl | hg
        · exact .inl (.inr h)
        · exact .inr ⟨g, hg, h⟩

theorem names2_eq (l : List Fact) (issuer period day : Int) : names2 l issuer period day = namesOf issuer period day l := by
  obtain ⟨h1, h2⟩ := names2_inv l issuer period day l [] List.Pairwise.nil
  obtain ⟨k1, k2, k3⟩ := known_inv issuer period day l
  refine asc_eq h1 (keysS_pair' k2) fun y => ?_
  unfold names2 namesOf
  rw [h2 y, keysS_mem, ← mget_some', known_best]
  constructor
  · rintro (h | ⟨f, _, rfl, h, _⟩)
    · simp at h
    · exact h
  · intro h
    right
    cases hb : best issuer y period day l with
    | none => rw [hb] at h; cases h
    | some g =>
      have hk : mget (knownM issuer period day l) y = some g := by rw [known_best]; exact hb
      obtain ⟨g1, g2, g3, _⟩ := known_sound hk
      refine ⟨g, g1, g3, ?_, g2⟩
      rw [g3, hb]
      rfl

theorem known2_same (l : List Fact) (hl : Fits l) (h20 : l.length ≤ 1000000) (issuer period day : Int) :
    APure Try.prog 16 [encFs l, .int .i64 issuer, .int .i64 period, .int .i64 day] (fun rs => rs = if rightB l = true then [.new (.row 9 1 encS [] (namesOf issuer period day l)), .new (.row 3 1 encI 0 (valuesOf issuer period day l))] else [.val .nils, .val .nils]) := by
  cases hR : rightB l with
  | true =>
    have h := known2l_ok l hl h20 issuer period day hR
    rw [names2_eq] at h
    have hv : ((namesOf issuer period day l).map fun s => ((valueO l issuer s period day).getD f0).value) = valuesOf issuer period day l := by
      unfold valuesOf valueO
      simp only [hR, if_true]
    rw [hv] at h
    rw [if_pos rfl]
    exact h
  | false =>
    rw [if_neg (by exact Bool.noConfusion)]
    exact known2n_ok l hl issuer period day hR

end Go.Proofs.Ytnpnjaeobdapcaa
