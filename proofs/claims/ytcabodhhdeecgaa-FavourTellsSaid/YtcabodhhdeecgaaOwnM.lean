/-
  One-sided operators, conversions, closures, bytes of strings, new slices, choices, over abstract values.
-/
import Derived.Test.YtcabodhhdeecgaaOwnL
namespace Go.Own

/-- Whatever comes of it, where more than one thing may. -/
def OpSemR [Tabs] (P : Program) (o : Oper) (us : Uses) (H : Heap) (nx : Nat) (touch : List Nat) (Rr : Res → Prop) : Prop :=
  ∀ (m : Ids) (S : Blocks) (w : World) (a : Act) (H₂ : Heap) (K : Act → World → Prop) (Q : Exit → Act → World → Prop),
    Good m S w H₂ → (∀ id ∈ touch, lkH H₂ id = lkH H id) → (∀ i, nx ≤ i → (∃ r, Rr r ∧ i < r.nx) → m i = none) →
    (∀ u ∈ us, u.2.1 = true → RelV m S w (a.eval u.1) u.2.2) →
    (∀ r, Rr r → ∀ v m' S' w', Ext m S w H₂ nx r.nx m' S' w' (r.wr ++ H₂) → RelV m' S' w' v r.v → K (a.put o.dst v) w') →
    o.wp P a w K Q

theorem OpSem.toR [Tabs] {P : Program} {o : Oper} {us : Uses} {H : Heap} {nx : Nat} {r : Res} (h : OpSem P o us H nx r) : OpSemR P o us H nx r.touch (fun r' => r' = r) :=
  fun m S w a H₂ K Q hG ht hf hu hK => h m S w a H₂ K Q hG ht (fun i hi hr => hf i hi ⟨r, rfl, hr⟩) hu (hK r rfl)

def evUn (g : Option Bool) (op : UnOp) (x : AV) (c : AV → Prop) : Prop :=
  match op, x with
  | .not, .bool b => c (.bool (!b))
  | .neg, .int k n => fits g k (0 - n) c
  | _, _ => False

theorem evUn_sound [Tabs] {P : Program} {g : Option Bool} {rd : Operand → AV} {H : Heap} {nx : Nat} {op : UnOp} {t : TypeId} {x : Operand} {o : Oper} (ho : o.op = .unOp op t x) {k : Res → Prop}
    (h : evUn g op (rd x) fun v => k ⟨v, [], [], nx⟩) : ∃ r, (gOk g → OpSemP P o [(x, true, rd x)] H nx r) ∧ (r.wr = [] ∧ r.nx = nx) ∧ k r := by
  unfold evUn at h
  split at h
  · rename_i b hp
    refine ⟨_, fun hg => opsem_pure fun m S w a H₂ hG ht hus => ?_, ⟨rfl, rfl⟩, h⟩
    have hx : RelV m S w (a.eval x) (rd x) := hus (x, true, rd x) (by simp) rfl
    rw [hp] at hx
    generalize hv : a.eval x = v at hx
    cases hx with
    | t _ _ hx => cases hx; exact ⟨.bool (!b), fun w' _ => by unfold execOp; simp [ho, hv, Op.unary], .t _ _ (.bool _)⟩
  · rename_i kk n hp
    obtain ⟨r, hr, h⟩ := fits_sound h
    refine ⟨_, fun hg => opsem_pure fun m S w a H₂ hG ht hus => ?_, ⟨rfl, rfl⟩, h⟩
    have hx : RelV m S w (a.eval x) (rd x) := hus (x, true, rd x) (by simp) rfl
    rw [hp] at hx
    have hr' := hr hg
    exact ⟨.int kk r, fun w' _ => by unfold execOp; simp only [ho, relV_int hx, Op.unary, Op.intArith]; rw [hr']; rfl, .t _ _ (.int _ _)⟩
  · exact h.elim

def evConvert (T : Tab) (g : Option Bool) (src dst : TypeId) (x : AV) (c : AV → Prop) : Prop :=
  match lkT T src, lkT T dst with
  | some _, some ⟨.int k, _, _, _⟩ => match x with
    | .int _ n => fits g k n c
    | _ => False
  | some _, some ⟨.string, _, _, _⟩ => match x with
    | .str s => c (.str s)
    | _ => False
  | _, _ => False

theorem evConvert_sound [Tabs] {P : Program} {T : Tab} (hT : TabOk P T) {g : Option Bool} {rd : Operand → AV} {H : Heap} {nx : Nat} {src dst : TypeId} {x : Operand} {o : Oper} (ho : o.op = .convert src dst x) {k : Res → Prop}
    (h : evConvert T g src dst (rd x) fun v => k ⟨v, [], [], nx⟩) : ∃ r, (gOk g → OpSemP P o [(x, true, rd x)] H nx r) ∧ (r.wr = [] ∧ r.nx = nx) ∧ k r := by
  unfold evConvert at h
  split at h
  · rename_i i kk s b z hi hi'
    obtain ⟨hu, _⟩ := hT src _ hi
    obtain ⟨hu', _⟩ := hT dst _ hi'
    simp only at hu'
    split at h
    · rename_i kx n hp
      obtain ⟨r, hr, h⟩ := fits_sound h
      refine ⟨_, fun hg => opsem_pure fun m S w a H₂ hG ht hus => ?_, ⟨rfl, rfl⟩, h⟩
      have hx : RelV m S w (a.eval x) (rd x) := hus (x, true, rd x) (by simp) rfl
      rw [hp] at hx
      refine ⟨.int kk r, fun w' _ => ?_, .t _ _ (.int _ _)⟩
      unfold execOp
      simp [ho, relV_int hx, convert, run_underlying hu, run_underlying hu', Conv.intToInt, hr hg]
    · exact h.elim
  · rename_i i s b z hi hi'
    obtain ⟨hu, _⟩ := hT src _ hi
    obtain ⟨hu', _⟩ := hT dst _ hi'
    simp only at hu'
    split at h
    · rename_i str hp
      refine ⟨_, fun hg => opsem_pure fun m S w a H₂ hG ht hus => ?_, ⟨rfl, rfl⟩, h⟩
      have hx : RelV m S w (a.eval x) (rd x) := hus (x, true, rd x) (by simp) rfl
      rw [hp] at hx
      generalize hv : a.eval x = v at hx
      cases hx with
      | t _ _ hx => cases hx with
        | str s' l hs =>
          refine ⟨.string s', fun w' _ => ?_, .t _ _ (.str _ _ hs)⟩
          unfold execOp
          cases hd : i.desc <;> simp [ho, hv, convert, run_underlying hu, run_underlying hu', hd]
    · exact h.elim
  · exact h.elim

def evIndex (T : Tab) (g : Option Bool) (t : TypeId) (x i : AV) (c : AV → Prop) : Prop :=
  match lkT T t with
  | some ⟨.string, _, _, _⟩ => match x, i with
    | .str s, .int _ n => ob g (0 ≤ n ∧ n < s.length) (c (.int .u8 (s.getD n.toNat 0).toNat))
    | _, _ => False
  | _ => False

theorem evIndex_sound [Tabs] {P : Program} {T : Tab} (hT : TabOk P T) {g : Option Bool} {rd : Operand → AV} {H : Heap} {nx : Nat} {t : TypeId} {x i : Operand} {o : Oper} (ho : o.op = .index t x i) {k : Res → Prop}
    (h : evIndex T g t (rd x) (rd i) fun v => k ⟨v, [], [], nx⟩) : ∃ r, (gOk g → OpSemP P o [(x, true, rd x), (i, true, rd i)] H nx r) ∧ (r.wr = [] ∧ r.nx = nx) ∧ k r := by
  unfold evIndex at h
  split at h
  · rename_i hi
    obtain ⟨hu, _⟩ := hT t _ hi
    simp only at hu
    split at h
    · rename_i s kk n hp hq
      obtain ⟨hb, h⟩ := ob_iff.1 h
      refine ⟨_, fun hg => opsem_pure fun m S w a H₂ hG ht hus => ?_, ⟨rfl, rfl⟩, h⟩
      have hx : RelV m S w (a.eval x) (rd x) := hus (x, true, rd x) (by simp) rfl
      have hi' : RelV m S w (a.eval i) (rd i) := hus (i, true, rd i) (by simp) rfl
      obtain ⟨b0, b1⟩ := hb hg
      rw [hp] at hx
      rw [hq] at hi'
      have hiv := relV_int hi'
      generalize hv : a.eval x = v at hx
      cases hx with
      | t _ _ hx => cases hx with
        | str s' l hs =>
          have hsz : s'.size = s.length := by rw [← hs]; simp
          have hlt : n.toNat < s'.size := by omega
          have hlt2 : n.toNat < s.length := by omega
          have hb : s'[n.toNat] = s[n.toNat] := by
            show s'.data[n.toNat] = _
            subst hs
            simp
          refine ⟨.int .u8 (s.getD n.toNat 0).toNat, fun w' _ => ?_, .t _ _ (.int _ _)⟩
          unfold execOp
          simp [ho, hv, hiv, Instr.index, asIntOf, run_underlying hu, b0, ByteArray.getElem?_lt' s' _ hlt, hb, List.getD, List.getElem?_eq_getElem hlt2]
    · exact h.elim
  · exact h.elim

def evNilCheck (x : AV) (c : AV → Prop) : Prop :=
  match x with
  | .ptr id off => c (.ptr id off)
  | .eptr id E i off => c (.eptr id E i off)
  | .rop l => c (.rop l)
  | .fn (.func f) a b => c (.fn (.func f) a b)
  | _ => False

theorem evNilCheck_sound [Tabs] {P : Program} {rd : Operand → AV} {H : Heap} {nx : Nat} {x : Operand} {o : Oper} (ho : o.op = .nilCheck x) {k : Res → Prop}
    (h : evNilCheck (rd x) fun v => k ⟨v, [], [], nx⟩) : ∃ r, OpSemP P o [(x, true, rd x)] H nx r ∧ (r.wr = [] ∧ r.nx = nx) ∧ k r := by
  have fin : (∀ (m : Ids) (S : Blocks) (w : World) (v : Value), RelV m S w v (rd x) → (∃ p, v = .pointer (some p)) ∨ ∃ f a b, v = .func (.func f) a b) → k ⟨rd x, [], [], nx⟩ →
      ∃ r, OpSemP P o [(x, true, rd x)] H nx r ∧ (r.wr = [] ∧ r.nx = nx) ∧ k r := by
    intro hv hk
    refine ⟨_, opsem_pure fun m S w a H₂ hG ht hus => ?_, ⟨rfl, rfl⟩, hk⟩
    have hx : RelV m S w (a.eval x) (rd x) := hus (x, true, rd x) (by simp) rfl
    refine ⟨a.eval x, fun w' _ => ?_, hx⟩
    unfold execOp
    rcases hv m S w _ hx with ⟨p, hp⟩ | ⟨f, a', b', hp⟩ <;> simp [ho, hp]
  unfold evNilCheck at h
  split at h
  · rename_i id off hp
    rw [← hp] at h
    refine fin (fun m S w v hr => ?_) h
    rw [hp] at hr
    cases hr with
    | t _ _ h => cases h
    | ptr => exact .inl ⟨_, rfl⟩
  · rename_i hp
    rw [← hp] at h
    refine fin (fun m S w v hr => ?_) h
    rw [hp] at hr
    cases hr with
    | t _ _ h => cases h
    | eptr => exact .inl ⟨_, rfl⟩
  · rename_i hp
    rw [← hp] at h
    refine fin (fun m S w v hr => ?_) h
    rw [hp] at hr
    cases hr with
    | t _ _ h => cases h with
      | rop => exact .inl ⟨_, rfl⟩
  · rename_i hp
    rw [← hp] at h
    refine fin (fun m S w v hr => ?_) h
    rw [hp] at hr
    cases hr with
    | t _ _ h => cases h; exact .inr ⟨_, _, _, rfl⟩
    | fn => exact .inr ⟨_, _, _, rfl⟩
  · exact h.elim

theorem evMakeFunc_sound [Tabs] {P : Program} {rd : Operand → AV} {H : Heap} {nx : Nat} {fn : Fn} {first captured : Array Operand} {o : Oper} (ho : o.op = .makeFunc fn first captured) {k : Res → Prop}
    (h : k ⟨.fn fn (first.toList.map rd) (captured.toList.map rd), [], [], nx⟩) :
    ∃ r, OpSemP P o ((first.toList ++ captured.toList).map fun y => (y, true, rd y)) H nx r ∧ (r.wr = [] ∧ r.nx = nx) ∧ k r := by
  refine ⟨_, opsem_pure fun m S w a H₂ hG ht hus => ?_, ⟨rfl, rfl⟩, h⟩
  have key : ∀ (l : Array Operand), (∀ y ∈ l.toList, RelV m S w (a.eval y) (rd y)) → ∀ (j : Nat) (c : Value) (x : AV), (l.map a.eval)[j]? = some c → (l.toList.map rd)[j]? = some x → RelV m S w c x := by
    intro l hl j c x hc hx
    simp only [Array.getElem?_map, List.getElem?_map, Array.getElem?_toList, Option.map_eq_some_iff] at hc hx
    obtain ⟨y, hy, rfl⟩ := hc
    obtain ⟨y', hy', rfl⟩ := hx
    rw [hy] at hy'
    cases hy'
    exact hl y (Array.mem_toList_iff.2 (Array.mem_of_getElem? hy))
  refine ⟨.func fn (first.map a.eval) (captured.map a.eval), fun w' _ => ?_, .fn _ _ _ _ _ (by simp) (by simp) (key first fun y hy => hus (y, true, rd y) (List.mem_map.2 ⟨y, by simp at hy ⊢; exact .inl hy, rfl⟩) rfl) (key captured fun y hy => hus (y, true, rd y) (List.mem_map.2 ⟨y, by simp at hy ⊢; exact .inr hy, rfl⟩) rfl)⟩
  unfold execOp
  simp [ho, Instr.makeFunc]

/-- min, max of two numbers -/
def evMin (isMax : Bool) (x y : AV) (c : AV → Prop) : Prop :=
  match x, y with
  | .int k a, .int k' b => match Nat.beq (kidx k) (kidx k') with
    | true => match isMax with
      | false => c (.int k (min a b))
      | true => c (.int k (max a b))
    | false => False
  | _, _ => False

theorem evMin_sound [Tabs] {P : Program} {rd : Operand → AV} {H : Heap} {nx : Nat} {x y : Operand} {ts : Array TypeId} {isMax : Bool} {o : Oper}
    (ho : o.op = .call { callee := .builtin (if isMax then .max else .min), args := #[x, y], argTypes := ts }) {k : Res → Prop}
    (h : evMin isMax (rd x) (rd y) fun v => k ⟨v, [], [], nx⟩) : ∃ r, OpSemP P o [(x, true, rd x), (y, true, rd y)] H nx r ∧ (r.wr = [] ∧ r.nx = nx) ∧ k r := by
  unfold evMin at h
  split at h
  · rename_i kk a b' n hp hq
    split at h
    · rename_i hk0
      have := kidx_inj hk0
      subst this
      split at h
      all_goals
        refine ⟨_, opsem_pure fun m S w a H₂ hG ht hus => ?_, ⟨rfl, rfl⟩, h⟩
        have hx : RelV m S w (a.eval x) (rd x) := hus (x, true, rd x) (by simp) rfl
        have hy : RelV m S w (a.eval y) (rd y) := hus (y, true, rd y) (by simp) rfl
        rw [hp] at hx
        rw [hq] at hy
        refine ⟨.int kk _, fun w' _ => ?_, .t _ _ (.int _ _)⟩
        unfold execOp
        simp [ho, resolve, invoke, builtin, relV_int hx, relV_int hy, Builtin.min_, Builtin.max_, Builtin.min2, Builtin.max2]
        omega
    · exact h.elim
  · exact h.elim

end Go.Own
