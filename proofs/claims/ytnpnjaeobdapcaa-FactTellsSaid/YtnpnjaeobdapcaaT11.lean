import Derived.Test.YtnpnjaeobdapcaaT9
namespace Go.Proofs.Ytnpnjaeobdapcaa
open Go.Own

/-- Is it about the account, and to be heard of that day? -/
def heard (issuer : Int) (name : List UInt8) (period day : Int) (f : Fact) : Bool := decide (f.issuer = issuer) && decide (f.name = name) && decide (f.day ≤ day) && decide (f.period ≤ period)
def better (o : Option Fact) (f : Fact) : Option Fact :=
  match o with
  | none => some f
  | some g => if g.period ≤ f.period then some f else some g
def best1 (issuer : Int) (name : List UInt8) (period day : Int) (o : Option Fact) (f : Fact) : Option Fact := if heard issuer name period day f = true then better o f else o
def best (issuer : Int) (name : List UInt8) (period day : Int) (l : List Fact) : Option Fact := l.foldl (best1 issuer name period day) none

theorem known_best1 (issuer period day : Int) (m : List (List UInt8 × Fact)) (f : Fact) (name : List UInt8) : mget (known1 issuer period day m f) name = best1 issuer name period day (mget m name) f := by
  unfold known1 best1 heard
  by_cases h1 : f.issuer = issuer
  · by_cases h2 : day < f.day
    · have : ¬ f.day ≤ day := by omega
      simp [h2, this]
    · by_cases h3 : period < f.period
      · have : ¬ f.period ≤ period := by omega
        simp [h3, this]
      · have h2' : f.day ≤ day := by omega
        have h3' : f.period ≤ period := by omega
        by_cases hn : f.name = name
        · subst hn
          simp only [h1, h2, h3, h2', h3', decide_true, decide_false, Bool.not_true, Bool.or_self, Bool.and_self, if_true, Bool.false_eq_true, if_false]
          cases hm : mget m f.name with
          | none => simp [mget_mset, better]
          | some g =>
            by_cases hg : g.period ≤ f.period
            · simp [hg, mget_mset, better]
            · simp [hg, hm, better]
        · simp only [h1, h2, h3, h2', h3', hn, decide_true, decide_false, Bool.not_true, Bool.or_self, Bool.and_true, Bool.and_false, Bool.false_eq_true, if_false]
          split
          · rw [mget_mset, if_neg hn]
          · rfl
  · simp [h1]

theorem known_best (issuer period day : Int) (l : List Fact) (name : List UInt8) : mget (knownM issuer period day l) name = best issuer name period day l := by
  have key : ∀ (l : List Fact) (m : List (List UInt8 × Fact)), mget (l.foldl (known1 issuer period day) m) name = l.foldl (best1 issuer name period day) (mget m name) := by
    intro l
    induction l with
    | nil => intro m; rfl
    | cons f l ih => intro m; rw [List.foldl_cons, List.foldl_cons, ih, known_best1]
  exact key l []

/-- What is heard earlier is heard later. -/
theorem best_mono {issuer : Int} {name : List UInt8} {period a b : Int} (hab : a ≤ b) : ∀ (l : List Fact) (o o' : Option Fact), (o.isSome = true → o'.isSome = true) → (l.foldl (best1 issuer name period a) o).isSome = true → (l.foldl (best1 issuer name period b) o').isSome = true
  | [], o, o', h, hs => h hs
  | f :: l, o, o', h, hs => by
    refine best_mono hab l _ _ (fun hs => ?_) hs
    unfold best1 at hs ⊢
    have hsome : ∀ (o : Option Fact), (better o f).isSome = true := by
      intro o
      unfold better
      cases o with
      | none => rfl
      | some g => simp only; split <;> rfl
    by_cases hb : heard issuer name period b f = true
    · rw [if_pos hb]; exact hsome o'
    · have ha : ¬ heard issuer name period a f = true := by
        intro ha
        apply hb
        simp only [heard, Bool.and_eq_true, decide_eq_true_eq] at ha ⊢
        exact ⟨⟨ha.1.1, by omega⟩, ha.2⟩
      rw [if_neg ha] at hs
      rw [if_neg hb]
      exact h hs

theorem best_congr {issuer : Int} {name : List UInt8} {period a b : Int} : ∀ (l : List Fact) (o : Option Fact), (∀ f ∈ l, heard issuer name period a f = heard issuer name period b f) → l.foldl (best1 issuer name period a) o = l.foldl (best1 issuer name period b) o
  | [], o, h => rfl
  | f :: l, o, h => by
    rw [List.foldl_cons, List.foldl_cons, show best1 issuer name period a o f = best1 issuer name period b o f by rw [best1, best1, h f (by simp)]]
    exact best_congr l _ fun f hf => h f (by simp [hf])

/-- Two reports of one day in the other order. -/
theorem best_swap {issuer : Int} {name : List UInt8} {period day : Int} {x y : Fact} (hne : ¬ (x.issuer = y.issuer ∧ x.name = y.name ∧ x.period = y.period)) (o : Option Fact) :
    best1 issuer name period day (best1 issuer name period day o x) y = best1 issuer name period day (best1 issuer name period day o y) x := by
  unfold best1
  by_cases hx : heard issuer name period day x = true
  · by_cases hy : heard issuer name period day y = true
    · simp only [hx, hy, if_true]
      simp only [heard, Bool.and_eq_true, decide_eq_true_eq] at hx hy
      have hp : x.period ≠ y.period := fun e => hne ⟨by rw [hx.1.1.1, hy.1.1.1], by rw [hx.1.1.2, hy.1.1.2], e⟩
      cases o with
      | none =>
        by_cases h : x.period ≤ y.period
        · have h' : ¬ y.period ≤ x.period := by omega
          simp [better, h, h']
        · have h' : y.period ≤ x.period := by omega
          simp [better, h, h']
      | some g =>
        by_cases h1 : g.period ≤ x.period <;> by_cases h2 : g.period ≤ y.period <;> by_cases h3 : x.period ≤ y.period <;> by_cases h4 : y.period ≤ x.period <;> simp [better, h1, h2, h3, h4] <;> omega
    · simp [hx, hy]
  · simp [hx]

theorem goR_swap {x y : Fact} (hd : x.day = y.day) : ∀ (p q : List Fact) (last : Int), goR last (p ++ x :: y :: q) = true → goR last (p ++ y :: x :: q) = true
  | [], q, last, h => by
    simp only [List.nil_append, goR, Bool.and_eq_true, Bool.not_eq_true', decide_eq_false_iff_not] at h ⊢
    obtain ⟨⟨h1, h2⟩, ⟨h3, h4⟩, h5⟩ := h
    rw [hd]
    exact ⟨⟨h3, by omega⟩, ⟨h1, by omega⟩, h5⟩
  | z :: p, q, last, h => by
    simp only [List.cons_append, goR, Bool.and_eq_true] at h ⊢
    exact ⟨h.1, goR_swap hd p q z.day h.2⟩

end Go.Proofs.Ytnpnjaeobdapcaa
