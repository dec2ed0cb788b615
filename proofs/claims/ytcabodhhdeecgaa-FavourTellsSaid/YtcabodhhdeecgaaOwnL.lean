/-
  Numbers, bools, strings: the operators, over abstract values; conversions; closures; bytes of strings.
-/
import Derived.Test.YtcabodhhdeecgaaOwnK
namespace Go.Own

theorem wrap64_in' {n : Int} (h : -9223372036854775808 ≤ n ∧ n ≤ 9223372036854775807) : IntKind.i64.wrap n = n := IntWalk.i64_in n h

/-- A number that must fit, where the kind is int; else it wraps. -/
def fits (g : Option Bool) (k : IntKind) (r : Int) (c : AV → Prop) : Prop :=
  match k with
  | .i64 => ob g (-9223372036854775808 ≤ r ∧ r ≤ 9223372036854775807) (c (.int .i64 r))
  | k => c (.int k (k.wrap r))

theorem fits_sound {g : Option Bool} {k : IntKind} {r : Int} {c : AV → Prop} (h : fits g k r c) : ∃ n, (gOk g → k.wrap r = n) ∧ c (.int k n) := by
  unfold fits at h
  split at h
  · obtain ⟨h1, h2⟩ := ob_iff.1 h
    exact ⟨_, fun hg => wrap64_in' (h1 hg), h2⟩
  · exact ⟨_, fun _ => rfl, h⟩

/-- The operators on two numbers of one kind. -/
def evInt (g : Option Bool) (op : BinOp) (k : IntKind) (a b : Int) (c : AV → Prop) : Prop :=
  match op with
  | .add => fits g k (a + b) c
  | .sub => fits g k (a - b) c
  | .mul => fits g k (a * b) c
  | .quo => ob g (b ≠ 0) (fits g k (a.tdiv b) c)
  | .rem => ob g (b ≠ 0) (c (.int k (a.tmod b)))
  | .and => c (.int k (k.wrap (BitVec.ofInt k.bits a &&& BitVec.ofInt k.bits b).toNat))
  | .or => c (.int k (k.wrap (BitVec.ofInt k.bits a ||| BitVec.ofInt k.bits b).toNat))
  | .xor => c (.int k (k.wrap (BitVec.ofInt k.bits a ^^^ BitVec.ofInt k.bits b).toNat))
  | .andNot => c (.int k (k.wrap (BitVec.ofInt k.bits a &&& ~~~ BitVec.ofInt k.bits b).toNat))
  | .eql => c (.bool (decide (a = b)))
  | .neq => c (.bool (!decide (a = b)))
  | .lss => c (.bool (decide (a < b)))
  | .leq => c (.bool (decide (a ≤ b)))
  | .gtr => c (.bool (decide (b < a)))
  | .geq => c (.bool (decide (b ≤ a)))
  | _ => False

theorem evInt_sound {P : Program} {g : Option Bool} {op : BinOp} {k : IntKind} {a b : Int} {c : AV → Prop} (hop : op ≠ .shl ∧ op ≠ .shr) (h : evInt g op k a b c) :
    ∃ v, (gOk g → ∀ (t : TypeId), ∃ u, (∀ w, (binOp op t (.int k a) (.int k b)).run P w = .ok u w) ∧ ∀ m S w, RelV m S w u v) ∧ c v := by
  have ri : ∀ (n : Int) (m : Ids) (S : Blocks) (w : World), RelV m S w (.int k n) (.int k n) := fun n m S w => .t _ _ (.int k n)
  have rb : ∀ (n : Bool) (m : Ids) (S : Blocks) (w : World), RelV m S w (.bool n) (.bool n) := fun n m S w => .t _ _ (.bool n)
  unfold evInt at h
  split at h
  · obtain ⟨n, hn, hc⟩ := fits_sound h
    exact ⟨_, fun hg t => ⟨_, by intro w; simp only [binOp, Op.intArith]; simp [hn hg], ri n⟩, hc⟩
  · obtain ⟨n, hn, hc⟩ := fits_sound h
    exact ⟨_, fun hg t => ⟨_, by intro w; simp only [binOp, Op.intArith]; simp [hn hg], ri n⟩, hc⟩
  · obtain ⟨n, hn, hc⟩ := fits_sound h
    exact ⟨_, fun hg t => ⟨_, by intro w; simp only [binOp, Op.intArith]; simp [hn hg], ri n⟩, hc⟩
  · obtain ⟨h0, h⟩ := ob_iff.1 h
    obtain ⟨n, hn, hc⟩ := fits_sound h
    exact ⟨_, fun hg t => ⟨_, by intro w; simp only [binOp, Op.intDiv]; simp [hn hg, h0 hg], ri n⟩, hc⟩
  · obtain ⟨h0, hc⟩ := ob_iff.1 h
    exact ⟨_, fun hg t => ⟨_, by intro w; simp only [binOp, Op.intDiv]; simp [h0 hg], ri _⟩, hc⟩
  · exact ⟨_, fun hg t => ⟨_, by intro w; simp only [binOp, Op.intBits]; simp, ri _⟩, h⟩
  · exact ⟨_, fun hg t => ⟨_, by intro w; simp only [binOp, Op.intBits]; simp, ri _⟩, h⟩
  · exact ⟨_, fun hg t => ⟨_, by intro w; simp only [binOp, Op.intBits]; simp, ri _⟩, h⟩
  · exact ⟨_, fun hg t => ⟨_, by intro w; simp only [binOp, Op.intBits]; simp, ri _⟩, h⟩
  · exact ⟨_, fun hg t => ⟨.bool (decide (a = b)), by intro w; simp only [binOp, Op.intCmp]; simp; rfl, rb _⟩, h⟩
  · exact ⟨_, fun hg t => ⟨.bool (!decide (a = b)), by intro w; simp only [binOp, Op.intCmp]; simp [bne]; rfl, rb _⟩, h⟩
  · exact ⟨_, fun hg t => ⟨_, by intro w; simp only [binOp, Op.intCmp]; simp, rb _⟩, h⟩
  · exact ⟨_, fun hg t => ⟨_, by intro w; simp only [binOp, Op.intCmp]; simp, rb _⟩, h⟩
  · exact ⟨_, fun hg t => ⟨_, by intro w; simp only [binOp, Op.intCmp]; simp, rb _⟩, h⟩
  · exact ⟨_, fun hg t => ⟨_, by intro w; simp only [binOp, Op.intCmp]; simp, rb _⟩, h⟩
  · exact h.elim

def evShift (g : Option Bool) (op : BinOp) (k : IntKind) (a b : Int) (c : AV → Prop) : Prop :=
  match op with
  | .shl => ob g (0 ≤ b) (c (.int k (k.wrap (a * 2 ^ (min b.toNat k.bits)))))
  | .shr => ob g (0 ≤ b) (c (.int k (a.fdiv (2 ^ (min b.toNat k.bits)))))
  | _ => False

/-- The operators on two strings. -/
def evStr (g : Option Bool) (op : BinOp) (a b : List UInt8) (c : AV → Prop) : Prop :=
  match op with
  | .add => ob g (((a.length + b.length : Nat) : Int) ≤ 9223372036854775807) (c (.str (a ++ b)))
  | .eql => c (.bool (decide (a = b)))
  | .neq => c (.bool (!decide (a = b)))
  | .lss => c (.bool (Op.bytesLess a b))
  | .leq => c (.bool (Op.bytesLess a b || decide (a = b)))
  | .gtr => c (.bool (!(Op.bytesLess a b || decide (a = b))))
  | .geq => c (.bool (!Op.bytesLess a b))
  | _ => False

def isShift : BinOp → Bool
  | .shl | .shr => true
  | _ => false

/-- Two values, all of whose parts are numbers, bools and strings, are the same. -/
def sameL : List AV → List AV → Option Bool → (Bool → Prop) → Prop
  | [], [], acc, c => c (acc.getD true)
  | .int _ a :: l, .int _ b :: r, acc, c => sameL l r (some (match acc with | none => decide (a = b) | some x => x && decide (a = b))) c
  | .bool a :: l, .bool b :: r, acc, c => sameL l r (some (match acc with | none => a == b | some x => x && (a == b))) c
  | .str a :: l, .str b :: r, acc, c => sameL l r (some (match acc with | none => decide (a = b) | some x => x && decide (a = b))) c
  | _, _, _, _ => False

/-- An operator. -/
def evBin (T : Tab) (g : Option Bool) (op : BinOp) (t : TypeId) (x y : AV) (c : AV → Prop) : Prop :=
  match x, y with
  | .int kx a, .int ky b => match isShift op with
    | true => evShift g op kx a b c
    | false => match Nat.beq (kidx kx) (kidx ky) with
      | true => evInt g op kx a b c
      | false => False
  | .str a, .str b => evStr g op a b c
  | .bool a, .bool b => match lkT T t with
    | some ⟨.bool, _, _, _⟩ => match op with
      | .eql => c (.bool (a == b))
      | .neq => c (.bool (!(a == b)))
      | _ => False
    | _ => False
  | _, _ => False

theorem evShift_sound {P : Program} {g : Option Bool} {op : BinOp} {k ky : IntKind} {a b : Int} {c : AV → Prop} (h : evShift g op k a b c) :
    ∃ v, (gOk g → ∀ (t : TypeId), ∃ u, (∀ w, (binOp op t (.int k a) (.int ky b)).run P w = .ok u w) ∧ ∀ m S w, RelV m S w u v) ∧ c v := by
  have ri : ∀ (n : Int) (m : Ids) (S : Blocks) (w : World), RelV m S w (.int k n) (.int k n) := fun n m S w => .t _ _ (.int k n)
  unfold evShift at h
  split at h
  · obtain ⟨h0, hc⟩ := ob_iff.1 h
    exact ⟨_, fun hg t => ⟨_, by intro w; simp only [binOp, Op.shift]; rw [if_neg (by have := h0 hg; omega)]; rfl, ri _⟩, hc⟩
  · obtain ⟨h0, hc⟩ := ob_iff.1 h
    exact ⟨_, fun hg t => ⟨_, by intro w; simp only [binOp, Op.shift]; rw [if_neg (by have := h0 hg; omega)]; rfl, ri _⟩, hc⟩
  · exact h.elim

theorem beq_dec (a b : List UInt8) : (a == b) = decide (a = b) := by
  rw [Bool.eq_iff_iff]
  simp

theorem evStr_sound {P : Program} {g : Option Bool} {op : BinOp} {a b : List UInt8} {c : AV → Prop} (h : evStr g op a b c) :
    ∃ v, (gOk g → ∀ (t : TypeId) (x y : ByteArray), x.data.toList = a → y.data.toList = b → ∃ u, (∀ w, (binOp op t (.string x) (.string y)).run P w = .ok u w) ∧ ∀ m S w, RelV m S w u v) ∧ c v := by
  have rb : ∀ (n : Bool) (m : Ids) (S : Blocks) (w : World), RelV m S w (.bool n) (.bool n) := fun n m S w => .t _ _ (.bool n)
  unfold evStr at h
  split at h
  · obtain ⟨h0, hc⟩ := ob_iff.1 h
    refine ⟨_, fun hg t x y hx hy => ⟨.string (x ++ y), fun w => ?_, fun m S w => .t _ _ (.str _ _ (by rw [← hx, ← hy]; simp))⟩, hc⟩
    have h1 := h0 hg
    rw [← hx, ← hy] at h1
    simp only [Array.length_toList, ByteArray.size_data] at h1
    simp only [binOp, Op.stringOp]
    rw [if_neg (by
      show ¬ ((x.size + y.size : Nat) : Int) > IntKind.i64.max
      have : IntKind.i64.max = 9223372036854775807 := by decide
      omega)]
    rfl
  all_goals first
    | exact h.elim
    | (refine ⟨_, fun hg t x y hx hy => ⟨_, fun w => ?_, rb _⟩, h⟩
       simp only [binOp, Op.stringOp, ByteArray.toList_eq, hx, hy, beq_dec]
       simp
       try rfl)

theorem evBin_sound [Tabs] {P : Program} {T : Tab} (hT : TabOk P T) {g : Option Bool} {rd : Operand → AV} {H : Heap} {nx : Nat} {op : BinOp} {t yt : TypeId} {x y : Operand} {o : Oper} (ho : o.op = .binOp op t x y yt) {k : Res → Prop}
    (h : evBin T g op t (rd x) (rd y) fun v => k ⟨v, [], [], nx⟩) : ∃ r, (gOk g → OpSemP P o [(x, true, rd x), (y, true, rd y)] H nx r) ∧ (r.wr = [] ∧ r.nx = nx) ∧ k r := by
  have fin : ∀ (v : AV), (gOk g → ∀ (m : Ids) (S : Blocks) (w : World) (a b : Value), RelV m S w a (rd x) → RelV m S w b (rd y) → ∃ u, (∀ w, (do eqGuard op t x y a b; binOp op t a b : Sem Value).run P w = .ok u w) ∧ RelV m S w u v) →
      k ⟨v, [], [], nx⟩ → ∃ r, (gOk g → OpSemP P o [(x, true, rd x), (y, true, rd y)] H nx r) ∧ (r.wr = [] ∧ r.nx = nx) ∧ k r := by
    intro v hv hk
    refine ⟨_, fun hg => opsem_pure fun m S w a H₂ hG ht hus => ?_, ⟨rfl, rfl⟩, hk⟩
    obtain ⟨u, hr, hu⟩ := hv hg m S w _ _ (hus (x, true, rd x) (by simp) rfl) (hus (y, true, rd y) (by simp) rfl)
    refine ⟨u, fun w' _ => ?_, hu⟩
    have hr := hr w'
    unfold execOp
    simp only [ho, Sem.run_bind] at hr ⊢
    rw [hr]
    rfl
  unfold evBin at h
  split at h
  · rename_i kx a ky b hx hy
    have guard : ∀ (w : World), (eqGuard op t x y (.int kx a) (.int ky b)).run P w = .ok () w := by
      intro w; unfold eqGuard; split <;> rfl
    split at h
    · obtain ⟨v, hv, hk⟩ := evShift_sound (P := P) (ky := ky) h
      refine fin v (fun hg m S w a' b' h1 h2 => ?_) hk
      rw [hx] at h1
      rw [hy] at h2
      obtain ⟨u, hr, hu⟩ := hv hg t
      rw [relV_int h1, relV_int h2]
      exact ⟨u, fun w => by rw [Sem.run_bind, guard]; exact hr w, hu m S w⟩
    · rename_i hns
      split at h
      · rename_i hk0
        have := kidx_inj hk0
        subst this
        obtain ⟨v, hv, hk⟩ := evInt_sound (P := P) (by constructor <;> (intro e; subst e; simp [isShift] at hns)) h
        refine fin v (fun hg m S w a' b' h1 h2 => ?_) hk
        rw [hx] at h1
        rw [hy] at h2
        obtain ⟨u, hr, hu⟩ := hv hg t
        rw [relV_int h1, relV_int h2]
        exact ⟨u, fun w => by rw [Sem.run_bind, guard]; exact hr w, hu m S w⟩
      · exact h.elim
  · rename_i a b hx hy
    obtain ⟨v, hv, hk⟩ := evStr_sound (P := P) h
    refine fin v (fun hg m S w a' b' h1 h2 => ?_) hk
    rw [hx] at h1
    rw [hy] at h2
    cases h1 with
    | t _ _ h1 => cases h1 with
      | str s l hs => cases h2 with
        | t _ _ h2 => cases h2 with
          | str s' l' hs' =>
            obtain ⟨u, hr, hu⟩ := hv hg t s s' hs hs'
            refine ⟨u, fun w => ?_, hu m S w⟩
            have guard : (eqGuard op t x y (.string s) (.string s')).run P w = .ok () w := by unfold eqGuard; split <;> rfl
            rw [Sem.run_bind, guard]; exact hr w
  · rename_i a b hx hy
    split at h
    · rename_i hi
      obtain ⟨hu, _⟩ := hT t _ hi
      simp only at hu
      have rb : ∀ (n : Bool) (m : Ids) (S : Blocks) (w : World), RelV m S w (.bool n) (.bool n) := fun n m S w => .t _ _ (.bool n)
      have guard : ∀ (w : World), (eqGuard op t x y (.bool a) (.bool b)).run P w = .ok () w := by
        intro w; unfold eqGuard; split <;> rfl
      have heq : ∀ (w : World), (Op.equal t (.bool a) (.bool b)).run P w = .ok (a == b) w := by
        intro w
        unfold Op.equal Op.maxDepth
        rw [show (10000 : Nat) = 9999 + 1 from rfl, Op.equalIn]
        simp [run_underlying hu]
      split at h
      · refine fin _ (fun hg m S w a' b' h1 h2 => ?_) h
        rw [hx] at h1
        rw [hy] at h2
        cases h1 with
        | t _ _ h1 => cases h1; cases h2 with
          | t _ _ h2 => cases h2; exact ⟨_, fun w => by rw [Sem.run_bind, guard]; simp [binOp, heq], rb _ m S w⟩
      · refine fin _ (fun hg m S w a' b' h1 h2 => ?_) h
        rw [hx] at h1
        rw [hy] at h2
        cases h1 with
        | t _ _ h1 => cases h1; cases h2 with
          | t _ _ h2 => cases h2; exact ⟨_, fun w => by rw [Sem.run_bind, guard]; simp [binOp, heq], rb _ m S w⟩
      · exact h.elim
    · exact h.elim
  · exact h.elim

end Go.Own
