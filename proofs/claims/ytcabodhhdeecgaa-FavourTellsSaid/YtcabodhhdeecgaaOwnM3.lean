/-
  Structs compared; slices compared with nil.
-/
import Derived.Test.YtcabodhhdeecgaaOwnM2
namespace Go.Own

def eqCell (T : Tab) (t : TypeId) (x y : AV) (k : Bool → Prop) : Prop :=
  match lkT T t with
  | some ⟨.int q, _, _, _⟩ => match x with
    | .int q1 a => match y with
      | .int q2 b => match sameKind q q1 q2 with
        | true => k (decide (a = b))
        | false => False
      | _ => False
    | _ => False
  | some ⟨.string, _, _, _⟩ => match x with
    | .str a => match y with
      | .str b => k (decide (a = b))
      | _ => False
    | _ => False
  | some ⟨.bool, _, _, _⟩ => match x with
    | .bool a => match y with
      | .bool b => k (decide (a = b))
      | _ => False
    | _ => False
  | _ => False

def eqFsK (T : Tab) : List Field → List AV → List AV → Nat → (Bool → Prop) → Prop
  | [], _, _, _, k => k true
  | f :: fs, xs, ys, j, k => match xs with
    | [] => False
    | x :: xs => match ys with
      | [] => False
      | y :: ys => match Nat.beq f.offset j with
        | false => False
        | true => eqCell T f.type x y fun b => eqFsK T fs xs ys (j + 1) fun r => k (b && r)

theorem eqCell_sound {P : Program} {T : Tab} (hT : TabOk P T) {t : TypeId} {x y : AV} {k : Bool → Prop} (h : eqCell T t x y k) :
    ∃ b, k b ∧ (∀ (cs : Array Value) (off : Nat) (c : Value), cs[off]? = some c → ∀ w, (part t cs off).run P w = .ok c w) ∧ ∀ {m : Ids} {S : Blocks} {w : World} {c e : Value}, RelV m S w c x → RelV m S w e y → ∀ (d : Nat) (w' : World), (Op.equalIn (d + 1) t c e).run P w' = .ok b w' := by
  unfold eqCell at h
  split at h
  · rename_i q a1 a2 a3 hi
    obtain ⟨hu, _⟩ := hT t _ hi
    have hpart : ∀ (cs : Array Value) (off : Nat) (c : Value), cs[off]? = some c → ∀ w, (part t cs off).run P w = .ok c w := fun cs off c hc w => by
      simp [part, isAgg, run_underlying hu, hc]
    split at h
    · rename_i q1 a
      split at h
      · rename_i q2 b
        split at h
        · rename_i hq
          obtain ⟨rfl, rfl⟩ := sameKind_eq hq
          refine ⟨_, h, hpart, fun {m S w c e} h1 h2 d w' => ?_⟩
          rw [relV_int' h1, relV_int' h2, run_equalIn_int w' d t _ _ a b hu]
          by_cases e : a = b <;> simp [e]
        · exact h.elim
      · exact h.elim
    · exact h.elim
  · rename_i a1 a2 a3 hi
    obtain ⟨hu, _⟩ := hT t _ hi
    have hpart : ∀ (cs : Array Value) (off : Nat) (c : Value), cs[off]? = some c → ∀ w, (part t cs off).run P w = .ok c w := fun cs off c hc w => by
      simp [part, isAgg, run_underlying hu, hc]
    split at h
    · rename_i a
      split at h
      · rename_i b
        refine ⟨_, h, hpart, fun {m S w c e} h1 h2 d w' => ?_⟩
        obtain ⟨s1, rfl, rfl⟩ := relV_str' h1
        obtain ⟨s2, rfl, rfl⟩ := relV_str' h2
        rw [run_equalIn_string w' d t _ _ hu, ByteArray.toList_eq, ByteArray.toList_eq]
        have : (s1.data.toList == s2.data.toList) = decide (s1.data.toList = s2.data.toList) := by
          by_cases e : s1.data.toList = s2.data.toList
          · simp [e]
          · simp only [e, decide_false]
            exact beq_eq_false_iff_ne.2 e
        rw [this]
      · exact h.elim
    · exact h.elim
  · rename_i a1 a2 a3 hi
    obtain ⟨hu, _⟩ := hT t _ hi
    have hpart : ∀ (cs : Array Value) (off : Nat) (c : Value), cs[off]? = some c → ∀ w, (part t cs off).run P w = .ok c w := fun cs off c hc w => by
      simp [part, isAgg, run_underlying hu, hc]
    split at h
    · rename_i a
      split at h
      · rename_i b
        refine ⟨_, h, hpart, fun {m S w c e} h1 h2 d w' => ?_⟩
        have e1 : c = .bool a := by cases h1 with | t _ _ h => cases h; rfl
        have e2 : e = .bool b := by cases h2 with | t _ _ h => cases h; rfl
        rw [e1, e2, run_equalIn_bool w' d t _ _ hu]
        cases a <;> cases b <;> rfl
      · exact h.elim
    · exact h.elim
  · exact h.elim

theorem eqFsK_sound {P : Program} {T : Tab} (hT : TabOk P T) : ∀ (fs : List Field) (xs ys : List AV) (j : Nat) (k : Bool → Prop), eqFsK T fs xs ys j k → (∀ f ∈ fs, f.name ≠ "_") →
    ∃ b, k b ∧ ∀ {m : Ids} {S : Blocks} {w : World} {cs es : Array Value}, (∀ (i : Nat) (c : Value) (a : AV), cs[j + i]? = some c → xs[i]? = some a → RelV m S w c a) → (∀ (i : Nat) (c : Value) (a : AV), es[j + i]? = some c → ys[i]? = some a → RelV m S w c a) →
      cs.size = j + xs.length → es.size = j + ys.length → ∀ (d : Nat) (w' : World), (Op.eqFields (d + 1) cs es fs).run P w' = .ok b w'
  | [], xs, ys, j, k, h, _ => ⟨true, h, fun _ _ _ _ d w' => rfl⟩
  | f :: fs, [], ys, j, k, h, _ => h.elim
  | f :: fs, x :: xs, [], j, k, h, _ => h.elim
  | f :: fs, x :: xs, y :: ys, j, k, h, hn => by
    simp only [eqFsK] at h
    split at h
    · exact h.elim
    · rename_i hb
      have hoff := Nat.eq_of_beq_eq_true hb
      obtain ⟨b, h, hpart, heq⟩ := eqCell_sound hT h
      obtain ⟨r, hk, hr⟩ := eqFsK_sound hT fs xs ys (j + 1) _ h fun f hf => hn f (by simp [hf])
      refine ⟨_, hk, fun {m S w cs es} h1 h2 hl1 hl2 d w' => ?_⟩
      simp at hl1 hl2
      obtain ⟨c, hc⟩ : ∃ c, cs[j]? = some c := ⟨_, Array.getElem?_eq_getElem (by omega)⟩
      obtain ⟨e, he⟩ : ∃ e, es[j]? = some e := ⟨_, Array.getElem?_eq_getElem (by omega)⟩
      have hname := hn f (by simp)
      have hE := heq (h1 0 c x (by rw [Nat.add_zero]; exact hc) rfl) (h2 0 e y (by rw [Nat.add_zero]; exact he) rfl) d w'
      have hrest := hr (m := m) (S := S) (w := w) (cs := cs) (es := es) (fun i c a p q => h1 (i + 1) c a (by rw [← p]; congr 1; omega) (by simpa using q)) (fun i c a p q => h2 (i + 1) c a (by rw [← p]; congr 1; omega) (by simpa using q)) (by omega) (by omega) d w'
      simp only [Op.eqFields, hname, ne_eq, not_false_eq_true, if_true, hoff, Sem.run_bind, hpart cs j _ hc w', hpart es j _ he w', Result.andThen_ok, hE]
      cases b with
      | false => simp
      | true => simpa using hrest

def evEqS (P : Program) (T : Tab) (neg : Bool) (t : TypeId) (xs : List AV) (y : AV) (k : AV → Prop) : Prop :=
  match lkT T t with
  | some ⟨.struct fs, _, _, _⟩ => match y with
    | .agg ys => (P.keyTypeAt 3 t = true ∧ P.eqGuardType P.depth t = false) ∧ eqFsK T fs.toList xs ys 0 fun b => match neg with
      | true => k (.bool (!b))
      | false => k (.bool b)
    | _ => False
  | _ => False

theorem evEqS_sound [Tabs] {P : Program} {T : Tab} (hT : TabOk P T) {rd : Operand → AV} {H : Heap} {nx : Nat} {neg : Bool} {t yt : TypeId} {x y : Operand} {xs : List AV} {o : Oper} (ho : o.op = .binOp (if neg then .neq else .eql) t x y yt) (hx : rd x = .agg xs) {k : Res → Prop}
    (h : evEqS P T neg t xs (rd y) fun v => k ⟨v, [], [], nx⟩) : ∃ r, OpSemP P o [(x, true, rd x), (y, true, rd y)] H nx r ∧ (r.wr = [] ∧ r.nx = nx) ∧ k r := by
  unfold evEqS at h
  split at h
  · rename_i fs a1 a2 a3 hi
    obtain ⟨hu, _⟩ := hT t _ hi
    split at h
    · rename_i ys hy
      obtain ⟨⟨hkey, hgd⟩, h⟩ := h
      unfold Program.keyTypeAt at hkey
      simp only [hu, Bool.and_eq_true, Bool.not_eq_true', Array.all_eq_true_iff_forall_mem, bne_iff_ne, ne_eq] at hkey
      obtain ⟨⟨hnames, _⟩, hstood⟩ := hkey
      obtain ⟨b, hk, hb⟩ := eqFsK_sound hT fs.toList xs ys 0 _ h fun f hf => (hnames f (by simpa using hf)).1
      have hfo : P.fieldsOf t = fs := by simp [Program.fieldsOf, hu]
      refine ⟨⟨.bool (if neg then !b else b), [], [], nx⟩, opsem_pure fun m S w a H₂ hG ht hus => ?_, ⟨rfl, rfl⟩, ?_⟩
      · have h1 : RelV m S w (a.eval x) (rd x) := hus (x, true, rd x) (by simp) rfl
        have h2 : RelV m S w (a.eval y) (rd y) := hus (y, true, rd y) (by simp) rfl
        rw [hx] at h1
        rw [hy] at h2
        obtain ⟨cs, hcs, hl1, r1⟩ := relV_agg h1
        obtain ⟨es, hes, hl2, r2⟩ := relV_agg h2
        refine ⟨.bool (if neg then !b else b), fun w' _ => ?_, .t _ _ (.bool _)⟩
        have hf := hb (m := m) (S := S) (w := w) (cs := cs) (es := es) (fun i c a p q => r1 i c a (by simpa using p) q) (fun i c a p q => r2 i c a (by simpa using p) q) (by omega) (by omega) 9998 w'
        have heq : (Op.equalIn 10000 t (.agg cs) (.agg es)).run P w' = .ok b w' := by
          rw [run_equalIn_struct w' 9999 t cs es (by rw [hfo]; exact hu) hstood, hfo]
          exact hf
        unfold execOp
        cases neg with
        | false => simp [ho, hcs, hes, run_eqGuard_agg w' .eql t x y cs es hgd, run_eql_struct, heq]
        | true => simp [ho, hcs, hes, run_eqGuard_agg w' .neq t x y cs es hgd, run_neq_struct, heq]
      · cases neg <;> exact hk
    · exact h.elim
  · exact h.elim

/-- A slice compared with nil: what is nil is empty. -/
def evNilS (neg : Bool) (x : AV) (k : AV → Prop) : Prop :=
  match x with
  | .nils => k (.bool (!neg))
  | .sl _ _ _ xs => ∀ b : Bool, ((if neg then !b else b) = true → xs = []) → k (.bool b)
  | .lsl _ xs => ∀ b : Bool, ((if neg then !b else b) = true → xs = []) → k (.bool b)
  | _ => False

theorem evNilS_sound [Tabs] {P : Program} {T : Tab} (hT : TabOk P T) {rd : Operand → AV} {H : Heap} {nx : Nat} {neg : Bool} {t yt e : TypeId} {s b : Nat} {z : Value} {x y : Operand} {o : Oper} (ho : o.op = .binOp (if neg then .neq else .eql) t x y yt) (hy : rd y = .nils)
    (hi : lkT T t = some ⟨.slice e, s, b, z⟩) {k : Res → Prop} (h : evNilS neg (rd x) fun v => k ⟨v, [], [], nx⟩) :
    ∃ Rr, OpSemR P o [(x, true, rd x), (y, true, rd y)] H nx [] Rr ∧ ∀ r, Rr r → nx ≤ r.nx ∧ k r := by
  obtain ⟨hu, _⟩ := hT t _ hi
  have hu' : P.underlying t = some (.slice e) := hu
  have run : ∀ (a : Act) (w : World) (p : Option Addr) (n c : Nat), a.eval x = .slice p n c → a.eval y = .slice none 0 0 → (execOp a.eval o).run P w = .ok (.value (.bool (if neg then !p.isNone else p.isNone))) w := by
    intro a w p n c h1 h2
    have hg : ∀ (op : BinOp), (eqGuard op t x y (.slice p n c) (.slice none 0 0)).run P w = .ok () w := by
      intro op; unfold eqGuard; split <;> rfl
    unfold execOp
    cases neg with
    | false =>
      have he : (binOp .eql t (.slice p n c) (.slice none 0 0)).run P w = .ok (.bool p.isNone) w := by
        simp only [binOp]
        simp [run_equal_slice_nil w t e p n c hu']
      simp [ho, h1, h2, hg, he]
    | true => simp [ho, h1, h2, hg, run_neq_slice_nil w t e p n c hu']
  have nil : ∀ {m : Ids} {S : Blocks} {w : World} {v : Value}, RelV m S w v .nils → v = .slice none 0 0 := by
    intro m S w v h
    cases h with
    | t _ _ h => cases h; rfl
  have lsl : ∀ {m : Ids} {S : Blocks} {w : World} {v : Value} {E : Nat} {l : List AV}, RelT S w v (.lsl E l) → ∃ p n c, v = .slice p n c ∧ (p.isNone = true → l = []) := by
    intro m S w v E l h
    rcases relT_lsl h with ⟨rfl | ⟨a, rfl⟩, hl⟩ | ⟨g', o', cap', cs, hv, _⟩
    · exact ⟨none, 0, 0, rfl, fun _ => hl⟩
    · exact ⟨_, 0, 0, rfl, fun _ => hl⟩
    · exact ⟨_, _, _, hv, fun h => by simp at h⟩
  have sem : ∀ (Pb : Bool → Prop), (∀ (m : Ids) (S : Blocks) (w : World) (v : Value), RelV m S w v (rd x) → ∃ p n c, v = .slice p n c ∧ Pb (if neg then !p.isNone else p.isNone)) →
      OpSemR P o [(x, true, rd x), (y, true, rd y)] H nx [] (fun r => ∃ b, Pb b ∧ r = ⟨.bool b, [], [], nx⟩) := by
    intro Pb hp m S w a H₂ K Q hG ht hf hus hK
    have h1 : RelV m S w (a.eval x) (rd x) := hus (x, true, rd x) (by simp) rfl
    have h2 : RelV m S w (a.eval y) (rd y) := hus (y, true, rd y) (by simp) rfl
    rw [hy] at h2
    obtain ⟨p, n, c, hv, hb⟩ := hp m S w _ h1
    unfold Oper.wp
    rw [run a w p n c hv (nil h2), Oper.upon_value]
    exact hK _ ⟨_, hb, rfl⟩ _ m S w (Ext.refl hG nx) (.t _ _ (.bool _))
  unfold evNilS at h
  split at h
  · rename_i hx
    refine ⟨_, sem (fun b => b = !neg) fun m S w v hv => ?_, ?_⟩
    · rw [hx] at hv
      exact ⟨none, 0, 0, nil hv, by cases neg <;> rfl⟩
    · rintro r ⟨b, rfl, rfl⟩
      exact ⟨Nat.le_refl _, h⟩
  · rename_i V E enc d xs hx
    refine ⟨_, sem (fun b => (if neg then !b else b) = true → xs = []) fun m S w v hv => ?_, ?_⟩
    · rw [hx] at hv
      cases hv with
      | t _ _ h => cases h with
        | sl E enc d xs v h =>
          obtain ⟨p, n, c, hp, hl⟩ := lsl (m := m) h
          refine ⟨p, n, c, hp, fun hb => ?_⟩
          have : p.isNone = true := by cases neg <;> simpa using hb
          simpa using hl this
    · rintro r ⟨b, hb, rfl⟩
      exact ⟨Nat.le_refl _, h b hb⟩
  · rename_i E xs hx
    refine ⟨_, sem (fun b => (if neg then !b else b) = true → xs = []) fun m S w v hv => ?_, ?_⟩
    · rw [hx] at hv
      cases hv with
      | t _ _ h =>
        obtain ⟨p, n, c, hp, hl⟩ := lsl (m := m) h
        refine ⟨p, n, c, hp, fun hb => ?_⟩
        have : p.isNone = true := by cases neg <;> simpa using hb
        exact hl this
    · rintro r ⟨b, hb, rfl⟩
      exact ⟨Nat.le_refl _, h b hb⟩
  · exact h.elim

/-- The two-sided operators, all. -/
def evBin2 (P : Program) (T : Tab) (g : Option Bool) (op : BinOp) (t : TypeId) (x y : AV) (c : AV → Prop) : Prop :=
  match x with
  | .agg xs => match op with
    | .eql => evEqS P T false t xs y c
    | .neq => evEqS P T true t xs y c
    | _ => False
  | _ => evBin T g op t x y c

theorem evBin2_sound [Tabs] {P : Program} {T : Tab} (hT : TabOk P T) {g : Option Bool} {rd : Operand → AV} {H : Heap} {nx : Nat} {op : BinOp} {t yt : TypeId} {x y : Operand} {o : Oper} (ho : o.op = .binOp op t x y yt) {k : Res → Prop}
    (h : evBin2 P T g op t (rd x) (rd y) fun v => k ⟨v, [], [], nx⟩) : ∃ r, (gOk g → OpSemP P o [(x, true, rd x), (y, true, rd y)] H nx r) ∧ (r.wr = [] ∧ r.nx = nx) ∧ k r := by
  unfold evBin2 at h
  split at h
  · rename_i xs hx
    split at h
    · obtain ⟨r, h1, h2⟩ := evEqS_sound (neg := false) hT ho hx h
      exact ⟨r, fun _ => h1, h2⟩
    · obtain ⟨r, h1, h2⟩ := evEqS_sound (neg := true) hT ho hx h
      exact ⟨r, fun _ => h1, h2⟩
    · exact h.elim
  · exact evBin_sound hT ho h

/-- The same, where sums and differences of ints may wrap. -/
def evBinW (P : Program) (T : Tab) (g : Option Bool) (op : BinOp) (t : TypeId) (x y : AV) (c : AV → Prop) : Prop :=
  match op with
  | .add => match x, y with
    | .int .i64 a, .int .i64 b => c (.int .i64 (IntKind.i64.wrap (a + b)))
    | _, _ => evBin2 P T g op t x y c
  | .sub => match x, y with
    | .int .i64 a, .int .i64 b => c (.int .i64 (IntKind.i64.wrap (a - b)))
    | _, _ => evBin2 P T g op t x y c
  | _ => evBin2 P T g op t x y c

theorem evBinW_sound [Tabs] {P : Program} {T : Tab} (hT : TabOk P T) {g : Option Bool} {rd : Operand → AV} {H : Heap} {nx : Nat} {op : BinOp} {t yt : TypeId} {x y : Operand} {o : Oper} (ho : o.op = .binOp op t x y yt) {k : Res → Prop}
    (h : evBinW P T g op t (rd x) (rd y) fun v => k ⟨v, [], [], nx⟩) : ∃ r, (gOk g → OpSemP P o [(x, true, rd x), (y, true, rd y)] H nx r) ∧ (r.wr = [] ∧ r.nx = nx) ∧ k r := by
  have fin : ∀ (op' : BinOp) (f : Int → Int → Int) (a b : Int), op = op' → (∀ (w : World) (a b : Int), (binOp op' t (.int .i64 a) (.int .i64 b)).run P w = .ok (.int .i64 (IntKind.i64.wrap (f a b))) w) → rd x = .int .i64 a → rd y = .int .i64 b → k ⟨.int .i64 (IntKind.i64.wrap (f a b)), [], [], nx⟩ →
      ∃ r, (gOk g → OpSemP P o [(x, true, rd x), (y, true, rd y)] H nx r) ∧ (r.wr = [] ∧ r.nx = nx) ∧ k r := by
    intro op' f a b hop hrun hx hy hk
    subst hop
    refine ⟨_, fun hg => opsem_pure fun m S w act H₂ hG ht hus => ?_, ⟨rfl, rfl⟩, hk⟩
    have h1 := hus (x, true, rd x) (by simp) rfl
    have h2 := hus (y, true, rd y) (by simp) rfl
    simp only [hx, hy] at h1 h2
    refine ⟨.int .i64 (IntKind.i64.wrap (f a b)), fun w' _ => ?_, .t _ _ (.int _ _)⟩
    have guard : (eqGuard op t x y (.int .i64 a) (.int .i64 b)).run P w' = .ok () w' := by unfold eqGuard; split <;> rfl
    unfold execOp
    simp only [ho, relV_int h1, relV_int h2]
    simp only [Sem.run_bind, guard, Result.andThen_ok, hrun w' a b, Sem.run_pure]
  unfold evBinW at h
  split at h
  · split at h
    · rename_i a b hx hy
      exact fin .add (· + ·) a b rfl (fun w a b => by simp only [binOp, Op.intArith]; simp) hx hy h
    · exact evBin2_sound hT ho h
  · split at h
    · rename_i a b hx hy
      exact fin .sub (· - ·) a b rfl (fun w a b => by simp only [binOp, Op.intArith]; simp) hx hy h
    · exact evBin2_sound hT ho h
  · exact evBin2_sound hT ho h

/-- Is it nil? Where it is known. -/
def nilD : AV → Option Bool
  | .nils => some true
  | .lsl _ (_ :: _) => some false
  | .sl _ _ _ (_ :: _) => some false
  | _ => none

def evNilG (T : Tab) (op : BinOp) (t : TypeId) (x : AV) (k : AV → Prop) : Prop :=
  match lkT T t with
  | some ⟨.slice _, _, _, _⟩ => match nilD x with
    | some b => match op with
      | .eql => k (.bool b)
      | .neq => k (.bool (!b))
      | _ => False
    | none => False
  | _ => False

theorem nilD_sound {m : Ids} {S : Blocks} {w : World} {v : Value} {a : AV} {b : Bool} (h : RelV m S w v a) (hd : nilD a = some b) : ∃ p n c, v = .slice p n c ∧ p.isNone = b := by
  unfold nilD at hd
  split at hd
  · cases hd
    cases h with
    | t _ _ h => cases h; exact ⟨_, _, _, rfl, rfl⟩
  · cases hd
    rcases relT_lsl (relV_lsl h) with ⟨_, hl⟩ | ⟨g', o', cap', cs, hv, _⟩
    · cases hl
    · exact ⟨_, _, _, hv, rfl⟩
  · cases hd
    rcases relT_lsl (relV_sl h) with ⟨_, hl⟩ | ⟨g', o', cap', cs, hv, _⟩
    · cases hl
    · exact ⟨_, _, _, hv, rfl⟩
  · cases hd

theorem evNilG_sound [Tabs] {P : Program} {T : Tab} (hT : TabOk P T) {rd : Operand → AV} {H : Heap} {nx : Nat} {op : BinOp} {t yt : TypeId} {x y : Operand} {o : Oper} (ho : o.op = .binOp op t x y yt) (hy : rd y = .nils) {k : Res → Prop}
    (h : evNilG T op t (rd x) fun v => k ⟨v, [], [], nx⟩) : ∃ r, OpSemP P o [(x, true, rd x), (y, true, rd y)] H nx r ∧ (r.wr = [] ∧ r.nx = nx) ∧ k r := by
  unfold evNilG at h
  split at h
  · rename_i e s b z hi
    obtain ⟨hu, _⟩ := hT t _ hi
    have hu' : P.underlying t = some (.slice e) := hu
    split at h
    · rename_i b hb
      have main : ∀ neg : Bool, op = (if neg then .neq else .eql) → k ⟨.bool (if neg then !b else b), [], [], nx⟩ → ∃ r, OpSemP P o [(x, true, rd x), (y, true, rd y)] H nx r ∧ (r.wr = [] ∧ r.nx = nx) ∧ k r := by
        intro neg hop hk
        refine ⟨_, opsem_pure fun m S w a H₂ hG ht hus => ?_, ⟨rfl, rfl⟩, hk⟩
        have hx : RelV m S w (a.eval x) (rd x) := hus (x, true, rd x) (by simp) rfl
        have hy' : RelV m S w (a.eval y) (rd y) := hus (y, true, rd y) (by simp) rfl
        obtain ⟨p, n, c, h1, h3⟩ := nilD_sound hx hb
        have h2 : a.eval y = .slice none 0 0 := by
          rw [hy] at hy'
          generalize a.eval y = v at hy'
          cases hy' with
          | t _ _ h => cases h; rfl
        refine ⟨.bool (if neg then !b else b), fun w' _ => ?_, .t _ _ (.bool _)⟩
        have hg : ∀ (op : BinOp), (eqGuard op t x y (.slice p n c) (.slice none 0 0)).run P w' = .ok () w' := by
          intro op; unfold eqGuard; split <;> rfl
        unfold execOp
        cases neg with
        | false =>
          have he : (binOp .eql t (.slice p n c) (.slice none 0 0)).run P w' = .ok (.bool p.isNone) w' := by
            simp only [binOp]
            simp [run_equal_slice_nil w' t e p n c hu']
          simp [ho, hop, h1, h2, hg, he, h3]
        | true => simp [ho, hop, h1, h2, hg, run_neq_slice_nil w' t e p n c hu', h3]
      split at h
      · exact main false rfl h
      · exact main true rfl h
      · exact h.elim
    · exact h.elim
  · exact h.elim

end Go.Own
