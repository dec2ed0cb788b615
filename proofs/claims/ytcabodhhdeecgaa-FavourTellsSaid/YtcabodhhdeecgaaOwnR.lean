/-
  A region: its operations in the text's order.
-/
import Derived.Test.YtcabodhhdeecgaaOwnQ
namespace Go.Own

def getLay (d : Nat) : List Lay → Option Lay
  | [] => none
  | l :: r => if r.length + 1 = d then some l else getLay d r

def yieldT (tmps : Array Value) (t : Nat) : Option Bool :=
  match tmps[t]? with
  | some (.bool b) => some b
  | _ => none

def allG : List Lay → Prop
  | [] => True
  | l :: r => l.g = true ∧ allG r

def StkOk (tmps : Array Value) : List Lay → Prop
  | [] => True
  | l :: r => StkOk tmps r ∧ (yieldT tmps l.tmp == some l.pol) = l.g ∧ (l.g = true → allG r)

def EntRel (m : Ids) (S : Blocks) (w : World) (stk : List Lay) (v : Value) : Nat × AV → Prop
  | (0, a) => RelV m S w v a
  | (d + 1, a) => ∃ l, getLay (d + 1) stk = some l ∧ (l.g = true → RelV m S w v a) ∧ (l.g = false → v = undef)

structure RunI (m : Ids) (S : Blocks) (w : World) (N : Nat) (tmps : Array Value) (loc : Loc) (env : Env) (stk : List Lay) : Prop where
  size : tmps.size = N
  rel : ∀ s, EntRel m S w stk (tmps.getD s undef) (look loc env s)
  stk : StkOk tmps stk

theorem getLay_le {d : Nat} : ∀ {stk : List Lay} {l : Lay}, getLay d stk = some l → 1 ≤ d ∧ d ≤ stk.length
  | [], _, h => by simp [getLay] at h
  | l' :: r, l, h => by
    unfold getLay at h
    split at h
    · rename_i e; simp; omega
    · have := getLay_le h; simp; omega

theorem getLay_mem {d : Nat} : ∀ {stk : List Lay} {l : Lay}, getLay d stk = some l → l ∈ stk
  | [], _, h => by simp [getLay] at h
  | l' :: r, l, h => by
    unfold getLay at h
    split at h
    · cases h; simp
    · exact List.mem_cons.2 (.inr (getLay_mem h))

theorem getLay_suffix {d : Nat} {p s : List Lay} (h : d ≤ s.length) : getLay d (p ++ s) = getLay d s := by
  induction p with
  | nil => rfl
  | cons l p ih =>
    rw [List.cons_append, getLay, if_neg (by simp; omega)]
    exact ih

theorem StkOk.suffix {tmps : Array Value} {p s : List Lay} (h : StkOk tmps (p ++ s)) : StkOk tmps s := by
  induction p with
  | nil => exact h
  | cons l p ih => exact ih h.1

theorem allG_mem : ∀ {stk : List Lay}, allG stk → ∀ l ∈ stk, l.g = true
  | [], _, l, h => by simp at h
  | l' :: r, h, l, hl => by
    rcases List.mem_cons.1 hl with rfl | hl
    · exact h.1
    · exact allG_mem h.2 l hl

theorem allG_top {tmps : Array Value} {stk : List Lay} (h : StkOk tmps stk) (hg : gOk (topG stk)) : allG stk := by
  cases stk with
  | nil => trivial
  | cons l r => exact ⟨hg, h.2.2 hg⟩

theorem popTo_suffix (d : Nat) : ∀ (stk : List Lay), ∃ p, stk = p ++ popTo d stk
  | [] => ⟨[], rfl⟩
  | l :: r => by
    unfold popTo
    split
    · exact ⟨[], rfl⟩
    · obtain ⟨p, hp⟩ := popTo_suffix d r
      exact ⟨l :: p, by rw [List.cons_append, ← hp]⟩

theorem popTo_len {d : Nat} : ∀ (stk : List Lay), d ≤ stk.length → (popTo d stk).length = d
  | [], h => by simp at h; subst h; rfl
  | l :: r, h => by
    unfold popTo
    split
    · rename_i hb
      have := Nat.le_of_ble_eq_true hb
      simp at h ⊢
      omega
    · rename_i hb
      have : ¬ r.length + 1 ≤ d := fun hle => by rw [Nat.ble_eq_true_of_le hle] at hb; cases hb
      exact popTo_len r (by omega)

theorem findLay_suffix {t : Nat} {pol : Bool} : ∀ {stk s : List Lay}, findLay t pol stk = some s → (∃ p, stk = p ++ s) ∧ ∃ l r, s = l :: r ∧ l.tmp = t ∧ l.pol = pol
  | [], s, h => by simp [findLay] at h
  | l :: r, s, h => by
    unfold findLay at h
    split at h
    · rename_i hb
      cases h
      simp only [Bool.and_eq_true] at hb
      refine ⟨⟨[], rfl⟩, l, r, rfl, Nat.eq_of_beq_eq_true hb.1, ?_⟩
      have := hb.2
      cases hl : l.pol <;> cases pol <;> simp [hl, boolEq] at this ⊢
    · obtain ⟨⟨p, hp⟩, h2⟩ := findLay_suffix h
      exact ⟨⟨l :: p, by rw [List.cons_append, ← hp]⟩, h2⟩

theorem look_kill (d : Nat) : ∀ (loc : Loc) (env : Env) (s : Nat), look (kill d loc) env s = look loc env s ∧ (look loc env s).1 ≤ d ∨ look (kill d loc) env s = (0, .undef)
  | [], env, s => .inl ⟨rfl, Nat.zero_le _⟩
  | (i, e, v) :: r, env, s => by
    by_cases hi : i = s
    · subst hi
      by_cases hd : e ≤ d
      · left
        rw [kill, Nat.ble_eq_true_of_le hd]
        simp [look, hd]
      · right
        have : Nat.ble e d = false := by
          cases h : Nat.ble e d with
          | false => rfl
          | true => exact (hd (Nat.le_of_ble_eq_true h)).elim
        rw [kill, this]
        simp [look]
    · have hb : Nat.beq i s = false := by
        cases h : Nat.beq i s with
        | false => rfl
        | true => exact (hi (Nat.eq_of_beq_eq_true h)).elim
      have ih := look_kill d r env s
      rw [kill]
      cases Nat.ble e d <;> simp only [look, hb] <;> exact ih

/-- Fewer guards, what stood under the others forgotten. -/
theorem RunI.pop {m : Ids} {S : Blocks} {w : World} {N : Nat} {tmps : Array Value} {loc : Loc} {env : Env} {p s : List Lay} (h : RunI m S w N tmps loc env (p ++ s)) : RunI m S w N tmps (kill s.length loc) env s := by
  refine ⟨h.size, fun x => ?_, h.stk.suffix⟩
  rcases look_kill s.length loc env x with ⟨h1, h2⟩ | h1
  · rw [h1]
    have hr := h.rel x
    revert hr h2
    generalize look loc env x = q
    obtain ⟨d, a⟩ := q
    intro h2 hr
    cases d with
    | zero => exact hr
    | succ d =>
      obtain ⟨l, hl, h3⟩ := hr
      exact ⟨l, by rw [← hl, getLay_suffix h2], h3⟩
  · rw [h1]
    exact .t _ _ (.undef _)

theorem RunI.push {m : Ids} {S : Blocks} {w : World} {N : Nat} {tmps : Array Value} {loc : Loc} {env : Env} {stk : List Lay} (h : RunI m S w N tmps loc env stk) {l : Lay} (h1 : (yieldT tmps l.tmp == some l.pol) = l.g) (h2 : l.g = true → allG stk) : RunI m S w N tmps loc env (l :: stk) := by
  refine ⟨h.size, fun x => ?_, h.stk, h1, h2⟩
  have hr := h.rel x
  revert hr
  generalize look loc env x = q
  obtain ⟨d, a⟩ := q
  intro hr
  cases d with
  | zero => exact hr
  | succ d =>
    obtain ⟨l', hl, h3⟩ := hr
    exact ⟨l', by rw [show l :: stk = [l] ++ stk from rfl, getLay_suffix (getLay_le hl).2]; exact hl, h3⟩

theorem andG_true {stk : List Lay} {b : Bool} (h : andG stk b = true) : gOk (topG stk) ∧ b = true := by
  cases stk with
  | nil => exact ⟨trivial, h⟩
  | cons l r => obtain ⟨t, p, g⟩ := l; simpa [andG, topG, gOk] using h

theorem yieldT_eq {tmps : Array Value} {t : Nat} {b : Bool} (h : tmps.getD t undef = .bool b) : yieldT tmps t = some b := by
  unfold yieldT
  by_cases hlt : t < tmps.size
  · simp [Array.getD, hlt] at h ⊢
    simp [h]
  · simp [Array.getD, hlt, undef] at h

theorem yieldT_undef {tmps : Array Value} {t : Nat} (h : tmps.getD t undef = undef) : yieldT tmps t = none := by
  unfold yieldT
  by_cases hlt : t < tmps.size
  · simp [Array.getD, hlt] at h ⊢
    simp [h, undef]
  · simp [hlt]

/-- Where an operation's guards stand. -/
theorem enter_sound {all : List Oper} {o : Oper} {loc : Loc} {env : Env} {stk : List Lay} {k : List Lay → Loc → Prop} (h : enter all o.guard loc env stk k) {m : Ids} {S : Blocks} {w : World} {N : Nat} {tmps : Array Value} (hr : RunI m S w N tmps loc env stk) :
    ∃ stk' loc', k stk' loc' ∧ RunI m S w N tmps loc' env stk' ∧ (Region.wanted o (yielded all.toArray tmps) = true ↔ gOk (topG stk')) ∧
      (∀ s d v, look loc' env s = (d, v) → d ≤ stk'.length) ∧ (∃ p, stk = p ++ stk' ∨ ∃ l r, stk' = l :: r ∧ stk = p ++ r) := by
  have hd : ∀ {loc : Loc} {stk : List Lay}, RunI m S w N tmps loc env stk → ∀ s d v, look loc env s = (d, v) → d ≤ stk.length := by
    intro loc stk hr s d v hl
    have := hr.rel s
    rw [hl] at this
    cases d with
    | zero => omega
    | succ d => obtain ⟨l, hl, _⟩ := this; exact (getLay_le hl).2
  unfold enter at h
  split at h
  · rename_i hg
    have hw : Region.wanted o (yielded all.toArray tmps) = true := by simp [Region.wanted, hg]
    split at h
    · exact ⟨[], loc, h, hr, ⟨fun _ => trivial, fun _ => hw⟩, hd hr, [], .inl rfl⟩
    · rename_i l r
      have hp : RunI m S w N tmps (kill 0 loc) env [] := by
        have : RunI m S w N tmps loc env ((l :: r) ++ []) := by simpa using hr
        exact this.pop
      exact ⟨[], _, forceLoc_iff.1 h, hp, ⟨fun _ => trivial, fun _ => hw⟩, hd hp, l :: r, .inl (by simp)⟩
  · rename_i j pol hg
    split at h
    · exact h.elim
    · rename_i oj hj
      split at h
      · exact h.elim
      · rename_i t ht
        have hy : yielded all.toArray tmps j = yieldT tmps t := by
          unfold yielded yieldT
          simp [hj, ht]
          rfl
        have hwant : ∀ {l : Lay} {r : List Lay}, l.tmp = t → l.pol = pol → StkOk tmps (l :: r) → (Region.wanted o (yielded all.toArray tmps) = true ↔ gOk (topG (l :: r))) := by
          intro l r e1 e2 hs
          have := hs.2.1
          rw [e1, e2] at this
          simp only [Region.wanted, hg, hy, topG, gOk]
          rw [this]
        split at h
        · rename_i s hf
          obtain ⟨⟨p, hp⟩, l, r, rfl, e1, e2⟩ := findLay_suffix hf
          have hr' : RunI m S w N tmps loc env (p ++ (l :: r)) := by rw [← hp]; exact hr
          split at h
          · rename_i hb
            have hlen := Nat.eq_of_beq_eq_true hb
            have hp0 : p = [] := by
              have := congrArg List.length hp
              simp at this hlen
              apply List.eq_nil_of_length_eq_zero
              omega
            subst hp0
            exact ⟨_, _, h, hr', hwant e1 e2 hr'.stk, hd hr', [], .inl hp⟩
          · exact ⟨_, _, forceLoc_iff.1 h, hr'.pop, hwant e1 e2 hr'.pop.stk, hd hr'.pop, p, .inl hp⟩
        · split at h
          · rename_i d b hl
            rw [forceStk_iff] at h
            obtain ⟨p, hp⟩ := popTo_suffix d stk
            have hr' : RunI m S w N tmps loc env (p ++ popTo d stk) := by rw [← hp]; exact hr
            have hdl := hd hr t d _ hl
            have hpl := popTo_len stk hdl
            -- the guard's own bool
            have hgd : (yieldT tmps t == some pol) = andG (popTo d stk) (polB pol b) ∧ (andG (popTo d stk) (polB pol b) = true → allG (popTo d stk)) := by
              have hent := hr.rel t
              rw [hl] at hent
              have hst : StkOk tmps (popTo d stk) := hr'.stk.suffix
              have hpolb : ∀ (b : Bool), ((some b : Option Bool) == some pol) = polB pol b := by intro b; cases b <;> cases pol <;> rfl
              refine ⟨?_, fun ha => allG_top hst (andG_true ha).1⟩
              cases d with
              | zero =>
                have h0 : popTo 0 stk = [] := List.eq_nil_of_length_eq_zero hpl
                rw [h0]
                have : RelV m S w (tmps.getD t undef) (.bool b) := hent
                have hv : tmps.getD t undef = .bool b := by
                  generalize tmps.getD t undef = v at this
                  cases this with
                  | t _ _ h => cases h; rfl
                rw [yieldT_eq hv]
                exact hpolb b
              | succ d =>
                obtain ⟨l, hgl, h1, h2⟩ := hent
                have hgl2 : getLay (d + 1) (popTo (d + 1) stk) = some l := by
                  rw [← getLay_suffix (p := p) (by rw [hpl]; exact Nat.le_refl _), ← hp]
                  exact hgl
                cases hpop : popTo (d + 1) stk with
                | nil => rw [hpop] at hpl; simp at hpl
                | cons l' r =>
                  rw [hpop] at hgl2 hpl
                  have : l' = l := by
                    rw [getLay, if_pos (by simpa using hpl)] at hgl2
                    cases hgl2
                    rfl
                  subst this
                  simp only [andG]
                  cases hlg : l'.g with
                  | true =>
                    have := h1 hlg
                    have hv : tmps.getD t undef = .bool b := by
                      generalize tmps.getD t undef = v at this
                      cases this with
                      | t _ _ h => cases h; rfl
                    rw [yieldT_eq hv]
                    simpa using hpolb b
                  | false =>
                    rw [yieldT_undef (h2 hlg)]
                    simp
            have fin : ∀ {loc' : Loc}, RunI m S w N tmps loc' env (popTo d stk) → k (⟨t, pol, andG (popTo d stk) (polB pol b)⟩ :: popTo d stk) loc' →
                ∃ stk' loc', k stk' loc' ∧ RunI m S w N tmps loc' env stk' ∧ (Region.wanted o (yielded all.toArray tmps) = true ↔ gOk (topG stk')) ∧
                  (∀ s d v, look loc' env s = (d, v) → d ≤ stk'.length) ∧ (∃ p, stk = p ++ stk' ∨ ∃ l r, stk' = l :: r ∧ stk = p ++ r) := by
              intro loc' hr2 hk
              have hpush := hr2.push (l := ⟨t, pol, andG (popTo d stk) (polB pol b)⟩) hgd.1 hgd.2
              exact ⟨_, _, hk, hpush, hwant rfl rfl hpush.stk, hd hpush, p, .inr ⟨_, _, rfl, hp⟩⟩
            split at h
            · rename_i hb
              have hlen := Nat.eq_of_beq_eq_true hb
              have hp0 : p = [] := by
                have := congrArg List.length hp
                simp at this
                apply List.eq_nil_of_length_eq_zero
                omega
              subst hp0
              exact fin hr' h
            · exact fin hr'.pop (forceLoc_iff.1 h)
          · exact h.elim

end Go.Own
