import Derived.Test.YtnpnjaeobdapcaaT8
namespace Go.Proofs.Ytnpnjaeobdapcaa
open Go.Own

theorem mget_mset {K V : Type} [DecidableEq K] (m : List (K × V)) (k k' : K) (x : V) : mget (mset m k x) k' = if k = k' then some x else mget m k' := by
  induction m with
  | nil => simp [mset, mget]
  | cons p m ih =>
    obtain ⟨a, v⟩ := p
    unfold mset
    by_cases e : a = k
    · subst e
      simp only [if_true, mget]
      by_cases e' : a = k' <;> simp [e']
    · simp only [e, if_false, mget, ih]
      by_cases e' : a = k'
      · subst e'
        have : ¬ k = a := fun h => e h.symm
        simp [this]
      · simp [e']

/-- Of what is known: it was reported, by that issuer, by that day, for no later period. -/
theorem known_sound {issuer period day : Int} : ∀ {l : List Fact} {n : List UInt8} {g : Fact}, mget (knownM issuer period day l) n = some g → g ∈ l ∧ g.issuer = issuer ∧ g.name = n ∧ g.day ≤ day ∧ g.period ≤ period := by
  have key : ∀ (l : List Fact) (m : List (List UInt8 × Fact)) (P : Fact → Prop), (∀ n g, mget m n = some g → P g ∧ g.issuer = issuer ∧ g.name = n ∧ g.day ≤ day ∧ g.period ≤ period) → (∀ g ∈ l, P g) →
      ∀ n g, mget (l.foldl (known1 issuer period day) m) n = some g → P g ∧ g.issuer = issuer ∧ g.name = n ∧ g.day ≤ day ∧ g.period ≤ period := by
    intro l
    induction l with
    | nil => intro m P h _ n g hg; exact h n g hg
    | cons f l ih =>
      intro m P h hl n g hg
      refine ih (known1 issuer period day m f) P (fun n g hg => ?_) (fun g hg => hl g (by simp [hg])) n g hg
      unfold known1 at hg
      split at hg
      · exact h n g hg
      · rename_i hc
        split at hg
        · rw [mget_mset] at hg
          split at hg
          · rename_i e
            cases hg
            simp only [Bool.or_eq_true, Bool.not_eq_true', decide_eq_false_iff_not, decide_eq_true_eq, not_or, Decidable.not_not] at hc
            exact ⟨hl f (by simp), hc.1.1, e, by omega, by omega⟩
          · exact h n g hg
        · exact h n g hg
  intro l n g hg
  exact key l [] (fun g => g ∈ l) (fun n g h => by simp [mget] at h) (fun g h => h) n g hg

theorem goR_snoc {f : Fact} (hf : oneB f = true) : ∀ (l : List Fact) (last : Int), goR last l = true → (l = [] → last ≤ f.day) → (∀ x, l.getLast? = some x → x.day ≤ f.day) → goR last (l ++ [f]) = true
  | [], last, _, h, _ => by
    have := h rfl
    simp only [List.nil_append, goR, Bool.and_eq_true, Bool.not_eq_true', decide_eq_false_iff_not]
    exact ⟨⟨hf, by omega⟩, trivial⟩
  | x :: l, last, hg, _, h => by
    simp only [List.cons_append, goR, Bool.and_eq_true] at hg ⊢
    refine ⟨hg.1, goR_snoc hf l x.day hg.2 (fun e => ?_) (fun y hy => ?_)⟩
    · subst e
      exact h x rfl
    · cases l with
      | nil => simp at hy
      | cons z l => exact h y (by rw [List.getLast?_cons_cons]; exact hy)

theorem one_day {f : Fact} (h : oneB f = true) : 0 ≤ f.day ∧ f.day ≤ 200000 ∧ 0 ≤ f.period := by
  simp only [oneB, Bool.and_eq_true, decide_eq_true_eq] at h
  omega

theorem add_right {l : List Fact} {f : Fact} (h : addE l f = 0) : rightB l = true ∧ oneB f = true ∧ rightB (l ++ [f]) = true := by
  unfold addE at h
  split at h
  · omega
  rename_i h1
  split at h
  · omega
  rename_i h2
  split at h
  · omega
  rename_i h3
  simp only [Bool.or_eq_true, Bool.not_eq_true', not_or, Bool.not_eq_false] at h1
  obtain ⟨hr, ho⟩ := h1
  refine ⟨hr, ho, ?_⟩
  simp only [rightB, Bool.and_eq_true, decide_eq_true_eq] at hr ⊢
  refine ⟨by simp; omega, ?_⟩
  simp only [Bool.and_eq_true, decide_eq_true_eq] at h2
  have hd := one_day ho
  refine goR_snoc ho l 0 hr.2 (fun _ => hd.1) (fun x hl => ?_)
  have hne : l ≠ [] := by intro e; subst e; simp at hl
  have hx : l.getD (l.length - 1) f0 = x := by
    rw [List.getLast?_eq_getElem?] at hl
    simp [List.getD, hl]
  rw [hx] at h2
  have hpos := List.length_pos_iff.2 hne
  omega

theorem known_snoc (issuer period day : Int) (l : List Fact) (f : Fact) : knownM issuer period day (l ++ [f]) = known1 issuer period day (knownM issuer period day l) f := by
  rw [knownM, List.foldl_append]; rfl

theorem now_true (l : List Fact) (f : Fact) (period day : Int) (h0 : addE l f = 0) (hd : f.day ≤ day) (hp : f.period ≤ period) : nowB l f period day = true := by
  obtain ⟨hr, ho, hrm⟩ := add_right h0
  -- what is known for f's own period, from its day on
  have hv : valueO (l ++ [f]) f.issuer f.name f.period day = some f := by
    rw [valueO, if_pos hrm, known_snoc, known1, if_neg (by simp; omega), if_pos, mget_mset, if_pos rfl]
    cases hm : mget (knownM f.issuer f.period day l) f.name with
    | none => simp
    | some g =>
      have := (known_sound hm).2.2.2.2
      simp [this]
  have hw : ∃ g, valueO (l ++ [f]) f.issuer f.name period day = some g ∧ (g = f ∨ l.any (betweenP f period) = true) := by
    rw [valueO, if_pos hrm, known_snoc, known1, if_neg (by simp; omega)]
    cases hm : mget (knownM f.issuer period day l) f.name with
    | none => exact ⟨f, by simp [mget_mset], .inl rfl⟩
    | some g =>
      obtain ⟨g1, g2, g3, g4, g5⟩ := known_sound hm
      by_cases hgp : g.period ≤ f.period
      · exact ⟨f, by simp [hgp, mget_mset], .inl rfl⟩
      · refine ⟨g, by simp [hgp, hm], .inr (List.any_eq_true.2 ⟨g, g1, ?_⟩)⟩
        simp only [betweenP, Bool.and_eq_true, decide_eq_true_eq]
        exact ⟨⟨⟨g2, g3⟩, by omega⟩, g5⟩
  have hold : valueO (l ++ [f]) f.issuer f.name f.period (f.day - 1) = valueO l f.issuer f.name f.period (f.day - 1) := by
    rw [valueO, valueO, if_pos hrm, if_pos hr, known_snoc, known1, if_pos (by simp; omega)]
  have hre : restatedB l f = l.any (thereP f) := by
    unfold restatedB
    congr 1
  have hrm2 : restatedB (l ++ [f]) f = true := by
    rw [restatedB, List.any_append]
    simp [sameKey]
  obtain ⟨g, hw, hg⟩ := hw
  unfold nowB
  simp only [hv, hw, hold, hre, hrm2]
  rcases hg with rfl | hg
  · simp
  · simp [hg]

theorem factNow_ok (l : List Fact) (hl : Fits l) (f : Fact) (hf : f.name.length ≤ 9223372036854775807) (period day : Int) : APureV Try.prog 3 [encFs l, encF f, .int .i64 period, .int .i64 day] (.bool true) :=
  law_now l hl f hf period day (fun h => ⟨(one_day (add_right h).2.1).1, (one_day (add_right h).2.1).2.1⟩) (fun h0 hd hp => now_true l f period day h0 hd hp)

end Go.Proofs.Ytnpnjaeobdapcaa
