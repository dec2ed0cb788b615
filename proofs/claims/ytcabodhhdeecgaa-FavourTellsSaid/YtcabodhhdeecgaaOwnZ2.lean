/-
  From the readings of a row's arguments to abstract values: any types of numbers, bools, strings, structs, slices; and the row, once for all laws.
-/
import Derived.Test.YtcabodhhdeecgaaOwnZ
namespace Go.Own
open Go.ChangeShapes Go.WideShapes Go.RowKit

/-- What n cells of a type read as. -/
def OpensR (P : Program) (t : TypeId) (n : Nat) (R : List AV → Prop) : Prop :=
  P.cellsOf t = n ∧ ∀ {H : Type} (ec : TypeId × Value → H) (W : World) (fuel : Nat) (cs : List Value) (x : DataW H × List MemPlace), DataW.trod ec P W 0 (fun _ => true) true fuel t cs = some x →
    ∃ l, R l ∧ cs.length = l.length ∧ l.length = n ∧ (∀ b ∈ l, b.one = true) ∧ ∀ (j : Nat) (c : Value) (b : AV), cs[j]? = some c → l[j]? = some b → RelT (All W) W c b

theorem opensR_int {P : Program} {t : TypeId} {k : IntKind} (ht : P.underlying t = some (.int k)) (hc : P.cellsOf t = 1) : OpensR P t 1 (fun l => ∃ n, (k.min ≤ n ∧ n ≤ k.max) ∧ l = [.int k n]) := by
  refine ⟨hc, fun ec W fuel cs x h => ?_⟩
  obtain ⟨n, rfl, _, hw⟩ := DataW.trod_int ht h
  simp only [Lit.wf, Bool.and_eq_true, decide_eq_true_eq] at hw
  refine ⟨_, ⟨n, hw, rfl⟩, rfl, rfl, by simp [AV.one], fun j c b hj hb => ?_⟩
  cases j with
  | zero => simp at hj hb; subst hj; subst hb; exact .int _ _
  | succ j => simp at hj

theorem opensR_bool {P : Program} {t : TypeId} (ht : P.underlying t = some .bool) (hc : P.cellsOf t = 1) : OpensR P t 1 (fun l => ∃ b, l = [.bool b]) := by
  refine ⟨hc, fun ec W fuel cs x h => ?_⟩
  obtain ⟨n, rfl, _⟩ := DataW.trod_bool ht h
  refine ⟨_, ⟨n, rfl⟩, rfl, rfl, by simp [AV.one], fun j c b hj hb => ?_⟩
  cases j with
  | zero => simp at hj hb; subst hj; subst hb; exact .bool _
  | succ j => simp at hj

theorem opensR_str {P : Program} {t : TypeId} (ht : P.underlying t = some .string) (hc : P.cellsOf t = 1) : OpensR P t 1 (fun l => ∃ s : List UInt8, s.length ≤ 9223372036854775807 ∧ l = [.str s]) := by
  refine ⟨hc, fun ec W fuel cs x h => ?_⟩
  obtain ⟨s, rfl, _, hs⟩ := DataW.trod_string ht h
  have hs' : s.data.toList.length ≤ 9223372036854775807 := by
    show s.size ≤ _
    unfold maxLen at hs
    omega
  refine ⟨_, ⟨s.data.toList, hs', rfl⟩, rfl, rfl, by simp [AV.one], fun j c b hj hb => ?_⟩
  cases j with
  | zero => simp at hj hb; subst hj; subst hb; exact .str _ _ rfl
  | succ j => simp at hj

/-- The fields of a struct. -/
def FieldsR (P : Program) : Nat → List Field → List (Nat × (List AV → Prop)) → Nat → Prop
  | off, [], [], n => off = n
  | off, f :: fs, (k, R) :: Rs, n => f.offset = off ∧ OpensR P f.type k R ∧ FieldsR P (off + k) fs Rs n
  | _, _, _, _ => False

def StrR : List (Nat × (List AV → Prop)) → List AV → Prop
  | [], l => l = []
  | (_, R) :: Rs, l => ∃ l1 l2, R l1 ∧ StrR Rs l2 ∧ l = l1 ++ l2

theorem opensR_struct {P : Program} {t : TypeId} {fs : Array Field} {n : Nat} {Rs : List (Nat × (List AV → Prop))} (ht : P.underlying t = some (.struct fs)) (hc : P.cellsOf t = n) (hf : FieldsR P 0 fs.toList Rs n) : OpensR P t n (StrR Rs) := by
  refine ⟨hc, fun {H} ec W fuel cs x h => ?_⟩
  obtain ⟨xs, m, _, _, hl, hlen, hfs⟩ := DataW.trod_struct ht h
  rw [hc] at hl
  have key : ∀ (gs : List Field) (Rs : List (Nat × (List AV → Prop))) (off i : Nat), FieldsR P off gs Rs n → (∀ j, gs[j]? = fs[i + j]?) → off ≤ n →
      ∃ l, StrR Rs l ∧ off + l.length = n ∧ (∀ b ∈ l, b.one = true) ∧ ∀ (j : Nat) (c : Value) (b : AV), cs[off + j]? = some c → l[j]? = some b → RelT (All W) W c b := by
    intro gs
    induction gs with
    | nil =>
      intro Rs off i hF _ _
      cases Rs with
      | nil =>
        have : off = n := hF
        exact ⟨[], rfl, by simpa using this, by simp, fun j c b _ h => by simp at h⟩
      | cons p Rs => exact hF.elim
    | cons f gs ih =>
      intro Rs off i hF hg hoff
      cases Rs with
      | nil => exact hF.elim
      | cons p Rs =>
        obtain ⟨k, R⟩ := p
        obtain ⟨ho, ⟨hck, hR⟩, hrest⟩ := hF
        have hfi : fs[i]? = some f := by
          have := hg 0
          simpa using this.symm
        have hi := hfs i f hfi
        have hil : i < xs.length := by
          rw [hlen]
          exact (Array.getElem?_eq_some_iff.1 hfi).1
        rw [List.getElem?_eq_getElem hil] at hi
        obtain ⟨l1, h1, h2, h3, h4, h5⟩ := hR ec W m _ _ hi
        have hk : k ≤ n - off := by
          rw [ho, hck] at h2
          simp at h2
          omega
        obtain ⟨l2, g1, g2, g3, g4⟩ := ih Rs (off + k) (i + 1) hrest (fun j => by
          have := hg (j + 1)
          rw [List.getElem?_cons_succ] at this
          rw [this]
          congr 1
          omega) (by omega)
        refine ⟨l1 ++ l2, ⟨l1, l2, h1, g1, rfl⟩, by simp; omega, fun b hb => ?_, fun j c b hj hb => ?_⟩
        · rcases List.mem_append.1 hb with hb | hb
          · exact h4 b hb
          · exact g3 b hb
        · by_cases hjk : j < k
          · rw [List.getElem?_append_left (by omega)] at hb
            refine h5 j c b ?_ hb
            rw [ho, hck]
            simp [hjk, hj]
          · rw [List.getElem?_append_right (by omega)] at hb
            refine g4 (j - k) c b ?_ (by rw [h3] at hb; exact hb)
            rw [← hj]
            congr 1
            omega
  obtain ⟨l, h1, h2, h3, h4⟩ := key fs.toList Rs 0 0 hf (fun j => by simp) (Nat.zero_le _)
  exact ⟨l, h1, by omega, by omega, h3, fun j c b hj hb => h4 j c b (by rw [Nat.zero_add]; exact hj) hb⟩

theorem OpensR.mono {P : Program} {t : TypeId} {n : Nat} {R R' : List AV → Prop} (h : OpensR P t n R) (hR : ∀ l, R l → R' l) : OpensR P t n R' :=
  ⟨h.1, fun ec W fuel cs x hx => let ⟨l, h1, h2⟩ := h.2 ec W fuel cs x hx; ⟨l, hR l h1, h2⟩⟩

theorem cell_block {W : World} {a : Addr} {c : Value} (h : W.cell? a = some c) : a.block < W.heap.size ∧ a.spot = none := by
  unfold World.cell? at h
  split at h
  · rename_i hb
    refine ⟨(Array.getElem?_eq_some_iff.1 hb).1, ?_⟩
    cases hs : a.spot with
    | none => rfl
    | some s => rw [hs] at h; simp at h
  · cases h

theorem addr_eta {a : Addr} (h : a.spot = none) : a = ⟨a.block, a.off, none⟩ := by
  cases a; simp at h; subst h; rfl

/-- A slice, wherever it stands. -/
theorem opensR_slice {P : Program} {t e : TypeId} {E : Nat} {R : List AV → Prop} {X : Type} [Inhabited X] {enc : X → AV} {ok : X → Prop} (d0 : X) (ht : P.underlying t = some (.slice e)) (hc : P.cellsOf t = 1) (ho : OpensR P e E R) (hpos : 0 < E)
    (hX : ∀ l, R l → ∃ a, ok a ∧ (enc a).cells = l) (hE1 : ∀ a, (enc a).cells.length = E) :
    OpensR P t 1 (fun l => ∃ xs : List X, (∀ a ∈ xs, ok a) ∧ xs.length ≤ 9223372036854775807 ∧ l = [.sl E enc d0 xs]) := by
  refine ⟨hc, fun {H} ec W fuel cs x h => ?_⟩
  have fin : ∀ {v : Value} {xs : List X}, (∀ a ∈ xs, ok a) → xs.length ≤ 9223372036854775807 → RelT (All W) W v (.lsl E (xs.map enc)) → cs = [v] →
      ∃ l, (∃ xs : List X, (∀ a ∈ xs, ok a) ∧ xs.length ≤ 9223372036854775807 ∧ l = [.sl E enc d0 xs]) ∧ cs.length = l.length ∧ l.length = 1 ∧ (∀ b ∈ l, b.one = true) ∧ ∀ (j : Nat) (c : Value) (b : AV), cs[j]? = some c → l[j]? = some b → RelT (All W) W c b := by
    intro v xs h1 h2 h3 hcs
    refine ⟨_, ⟨xs, h1, h2, rfl⟩, by rw [hcs]; rfl, rfl, by simp [AV.one], fun j c b hj hb => ?_⟩
    rw [hcs] at hj
    cases j with
    | zero => simp at hj hb; subst hj; subst hb; exact .sl _ _ _ _ _ h3
    | succ j => simp at hj
  rcases Deep.open_slice ht h with ⟨hcs, _⟩ | ⟨a, len, cap, m, n, D, Pl, hcs, hb, hl, hm, hmm, _, hel⟩
  · exact fin (xs := []) (by simp) (by simp) (.lslnil E) hcs
  · simp only [if_true] at hmm
    subst hmm
    rw [ho.1] at hel
    by_cases hm0 : m = 0
    · have hl0 : len = 0 := by omega
      subst hm0
      subst hl0
      exact fin (xs := []) (by simp) (by simp) (.lslz E a) hcs
    obtain ⟨c0, h0, _⟩ := hel 0 (by omega)
    obtain ⟨_, hlen0, hget0⟩ := World.cells?_some h0
    have hcell0 : W.cell? a = some (c0[0]'(by omega)) := by
      have := hget0 0 hpos
      rw [List.getElem?_eq_getElem (by omega)] at this
      simpa [Addr.add] using this
    obtain ⟨hlt, hspot⟩ := cell_block hcell0
    rw [addr_eta hspot] at hcs hel
    generalize a.block = g at *
    generalize a.off = o at *
    obtain ⟨A, hA⟩ := Deep.choose_lt (α := X) (n := len) (p := fun i x => ok x ∧ ∃ cs', W.cells? 0 ((⟨g, o, none⟩ : Addr).add (i * E)) E = some cs' ∧ cs'.length = (enc x).cells.length ∧ (∀ b ∈ (enc x).cells, b.one = true) ∧
        ∀ (j : Nat) (c : Value) (b : AV), cs'[j]? = some c → (enc x).cells[j]? = some b → RelT (All W) W c b) (fun i hi => by
      obtain ⟨cs', h1, h2⟩ := hel i (by omega)
      obtain ⟨l, q1, q2, _, q3, q4⟩ := ho.2 ec W n cs' _ h2
      obtain ⟨x, hx, rfl⟩ := hX l q1
      exact ⟨x, hx, cs', h1, q2, q3, q4⟩)
    have cell : ∀ i, i < len → ∀ j, j < E → ∃ c b, W.cell? ⟨g, o + (i * E + j), none⟩ = some c ∧ (enc (A i)).cells[j]? = some b ∧ RelT (All W) W c b := by
      intro i hi j hj
      obtain ⟨_, cs', h1, h2, _, h4⟩ := hA i hi
      obtain ⟨_, hlen, hget⟩ := World.cells?_some h1
      have hc := hget j hj
      have hcj : cs'[j]? = some (cs'[j]'(by omega)) := List.getElem?_eq_getElem (by omega)
      have hbj : (enc (A i)).cells[j]? = some ((enc (A i)).cells[j]'(by rw [hE1]; exact hj)) := List.getElem?_eq_getElem _
      refine ⟨_, _, ?_, hbj, h4 j _ _ hcj hbj⟩
      rw [hcj, Deep.add_add] at hc
      have e : (⟨g, o + (i * E + j), none⟩ : Addr) = (⟨g, o, none⟩ : Addr).add (i * E + j) := by
        unfold Addr.add
        split
        · rename_i h0; rw [h0]; rfl
        · rfl
      rw [e]
      exact hc
    have hsz : ∀ x ∈ ((List.range len).map A).map enc, x.cells.length = E := by
      intro x hx
      obtain ⟨y, _, rfl⟩ := List.mem_map.1 hx
      exact hE1 y
    have split : ∀ q, q < len * E → q / E < len ∧ q % E < E ∧ q = q / E * E + q % E := by
      intro q hq
      refine ⟨Nat.div_lt_of_lt_mul (by rw [Nat.mul_comm]; exact hq), Nat.mod_lt _ hpos, ?_⟩
      have := Nat.div_add_mod q E
      rw [Nat.mul_comm] at this
      omega
    have hflat : ∀ i, i < len → ∀ j, j < E → (flat (((List.range len).map A).map enc))[i * E + j]? = (enc (A i)).cells[j]? := by
      intro i hi j hj
      exact flat_get _ hsz i j _ (by simp [hi]) hj
    refine fin (v := .slice (some ⟨g, o, none⟩) len m) (xs := (List.range len).map A) (fun x hx => ?_) (by simp; unfold maxLen at hm; omega) ?_ hcs
    · obtain ⟨i, hi, rfl⟩ := List.mem_map.1 hx
      exact (hA i (List.mem_range.1 hi)).1
    · have hL : (((List.range len).map A).map enc).length = len := by simp
      have := RelT.lsl (S := All W) (w := W) E (((List.range len).map A).map enc) g o m ((List.range (len * E)).map fun q => (W.cell? ⟨g, o + q, none⟩).getD undef) hlt (by rw [hL]; exact hl) hsz (fun b hb => ?_) (by simp) (fun j c hj => ?_) (fun j c b hj hb => ?_)
      · rw [hL] at this
        exact this
      · obtain ⟨x, hx, hbx⟩ := List.mem_flatMap.1 hb
        obtain ⟨y, hy, rfl⟩ := List.mem_map.1 hx
        obtain ⟨i, hi, rfl⟩ := List.mem_map.1 hy
        obtain ⟨_, _, _, _, h3, _⟩ := hA i (List.mem_range.1 hi)
        exact h3 b hbx
      · have hq : j < len * E := by
          have := (List.getElem?_eq_some_iff.1 hj).1
          simpa using this
        obtain ⟨s1, s2, s3⟩ := split j hq
        obtain ⟨c', b', h1, _, _⟩ := cell _ s1 _ s2
        rw [← s3] at h1
        simp [hq, h1] at hj
        rw [h1, hj]
      · have hq : j < len * E := by
          have := (List.getElem?_eq_some_iff.1 hj).1
          simpa using this
        obtain ⟨s1, s2, s3⟩ := split j hq
        obtain ⟨c', b', h1, h2, h3⟩ := cell _ s1 _ s2
        have hf := hflat _ s1 _ s2
        rw [← s3] at h1 hf
        rw [hf, h2] at hb
        cases hb
        simp [hq, h1] at hj
        subst hj
        exact h3

/-! ### Arguments -/

/-- What an argument of a type is. -/
def OpV (P : Program) (t : TypeId) (Q : AV → Prop) : Prop :=
  ∀ {H : Type} {ec : TypeId × Value → H} {W : World} {base : Nat} {v : Value} {d : DataW H} {ps : List MemPlace}, Value.okWide P W .any base t v → DataW.Trod ec P W 0 (fun _ => true) true t v d ps → ∃ a, Q a ∧ RelT (All W) W v a

theorem OpV.mono {P : Program} {t : TypeId} {Q Q' : AV → Prop} (h : OpV P t Q) (hQ : ∀ a, Q a → Q' a) : OpV P t Q' := fun h1 h2 => let ⟨a, q, r⟩ := h h1 h2; ⟨a, hQ a q, r⟩

theorem opV_int {P : Program} {t : TypeId} {k : IntKind} (ht : P.underlying t = some (.int k)) : OpV P t (fun a => ∃ n, (k.min ≤ n ∧ n ≤ k.max) ∧ a = .int k n) := by
  intro H ec W base v d ps hv hd
  obtain ⟨n, rfl, _, _, hw⟩ := open_int ht hv hd
  simp only [Lit.wf, Bool.and_eq_true, decide_eq_true_eq] at hw
  exact ⟨_, ⟨n, hw, rfl⟩, .int _ _⟩

theorem opV_bool {P : Program} {t : TypeId} (ht : P.underlying t = some .bool) : OpV P t (fun a => ∃ b, a = .bool b) := by
  intro H ec W base v d ps hv hd
  obtain ⟨b, rfl⟩ := okWide_bool ht hv
  exact ⟨_, ⟨b, rfl⟩, .bool _⟩

theorem opV_str {P : Program} {t : TypeId} (ht : P.underlying t = some .string) : OpV P t (fun a => ∃ s : List UInt8, s.length ≤ 9223372036854775807 ∧ a = .str s) := by
  intro H ec W base v d ps hv hd
  obtain ⟨s, rfl⟩ := okWide_string ht hv
  obtain ⟨fuel, hf⟩ := hd
  obtain ⟨s', h, _, hs⟩ := DataW.trod_string ht hf
  simp [Value.cells] at h
  subst h
  exact ⟨_, ⟨s.data.toList, by show s.size ≤ _; unfold maxLen at hs; omega, rfl⟩, .str _ _ rfl⟩

theorem opV_slice {P : Program} {t e : TypeId} {R : AV → Prop} (ht : P.underlying t = some (.slice e)) (h : OpensR P t 1 (fun l => ∃ a, R a ∧ l = [a])) : OpV P t R := by
  intro H ec W base v d ps hv hd
  obtain ⟨a, len, cap, rfl⟩ := okWide_slice ht hv
  obtain ⟨fuel, hf⟩ := hd
  obtain ⟨l, ⟨x, hx, rfl⟩, _, _, _, hr⟩ := h.2 ec W fuel _ _ hf
  exact ⟨x, hx, hr 0 _ _ rfl rfl⟩

theorem opV_struct {P : Program} {t : TypeId} {fs : Array Field} {n : Nat} {R : List AV → Prop} (ht : P.underlying t = some (.struct fs)) (h : OpensR P t n R) : OpV P t (fun a => ∃ l, R l ∧ a = .agg l) := by
  intro H ec W base v d ps hv hd
  obtain ⟨cs, rfl, _⟩ := okWide_struct ht hv
  obtain ⟨fuel, hf⟩ := hd
  obtain ⟨l, hx, h1, _, _, hr⟩ := h.2 ec W fuel _ _ hf
  exact ⟨_, ⟨l, hx, rfl⟩, .agg cs l (by simpa [Value.cells] using h1) fun j c b hj hb => hr j c b (by simpa [Value.cells] using hj) hb⟩

def OpVs (P : Program) : List TypeId → List (AV → Prop) → Prop
  | [], [] => True
  | t :: ts, Q :: Qs => OpV P t Q ∧ OpVs P ts Qs
  | _, _ => False

def Alls : List (AV → Prop) → List AV → Prop
  | [], [] => True
  | Q :: Qs, a :: l => Q a ∧ Alls Qs l
  | _, _ => False

theorem opens_list {P : Program} {H : Type} {ec : TypeId × Value → H} {W : World} {base : Nat} : ∀ (ts : List TypeId) (Qs : List (AV → Prop)) (vs : List Value) (ds : List (DataW H)) (ps : List MemPlace), OpVs P ts Qs →
    (∀ (j : Nat) t v, ts[j]? = some t → vs[j]? = some v → Value.okWide P W .any base t v) → DataW.TrodAll ec P W 0 (fun _ => true) true ts vs ds ps → ∃ avs, Alls Qs avs ∧ RelTs (All W) W vs avs
  | [], [], vs, ds, ps, _, _, h => by
    obtain ⟨rfl, _, _⟩ := trodAll_nil h
    exact ⟨[], trivial, rfl, fun j v a h => by simp at h⟩
  | [], _ :: _, _, _, _, h, _, _ => h.elim
  | _ :: _, [], _, _, _, h, _, _ => h.elim
  | t :: ts, Q :: Qs, vs, ds, ps, hO, hv, h => by
    obtain ⟨v, vs', d, ds', p, q, rfl, rfl, rfl, h1, h2⟩ := trodAll_cons h
    obtain ⟨a, ha, hr⟩ := hO.1 (hv 0 t v rfl rfl) h1
    obtain ⟨avs, hA, hR⟩ := opens_list ts Qs vs' ds' q hO.2 (fun j t v h1 h2 => hv (j + 1) t v (by simpa using h1) (by simpa using h2)) h2
    refine ⟨a :: avs, ⟨ha, hA⟩, by simp [hR.1], fun j v' a' h1 h2 => ?_⟩
    cases j with
    | zero => simp at h1 h2; subst h1; subst h2; exact hr
    | succ j => exact hR.2 j v' a' (by simpa using h1) (by simpa using h2)

theorem alls_cons {Q : AV → Prop} {Qs : List (AV → Prop)} {l : List AV} (h : Alls (Q :: Qs) l) : ∃ a l', l = a :: l' ∧ Q a ∧ Alls Qs l' := by
  cases l with
  | nil => exact h.elim
  | cons a l => exact ⟨a, l, rfl, h.1, h.2⟩

theorem alls_nil {l : List AV} (h : Alls [] l) : l = [] := by
  cases l with
  | nil => rfl
  | cons a l => exact h.elim

/-- The row of a law, out of its contract. -/
theorem row_lifted [Tabs] {C : Checked} {P : Program} (hC : C.prog = P) {os : Os} {f : FuncId} {fn : Func} {s : ChangeSpec} {conds : List PathCond} {H : Type} {enc : TypeId × Value → H} {tb : TypeId} {Qs : List (AV → Prop)}
    (own : ownKnob P.godebug = none) (started : os.Started) (noInit : P.inits.idxOf? f = none) (hfn : P.funcs[f]? = some fn)
    (witness : ∃ (w : World) (tape : Tape) (i : Input), w.os = os ∧ (w.forCall tape i).Shaped P ∧ i.vars = [] ∧ Input.okWide P (w.forCall tape i) .any w.heap.size f i ∧
      s.pre6 enc P fn conds false (w.forCall tape i).memory i.args ∧ ({} : Assume).holds P (lone (Frame.enter P f i.args .normal) [] (w.forCall tape i)))
    (hl : laidOutB P = true) (hsv : s.vars = []) (hr : (fn.params.toList.all fun t => P.readableRec t && decide (t < P.types.size)) = true)
    (hres : fn.resultTypes = #[tb]) (htb : P.underlying tb = some .bool) (hspec : ∀ ds : List (DataW H), ds.length = fn.params.size → s.fn H (ds ++ []) = { results := [.lit (.bool true)], args := ds })
    (hQ : OpVs P fn.params.toList Qs) (hA : ∀ avs, Alls Qs avs → APureV P f avs (.bool true)) (hTb : ∀ g, Tabs.held g = none := by intro _; rfl) :
    ReturnsInHanded {} C os f .any (s.pre6 enc P fn conds false) (s.post enc P fn false true false false) := by
  subst hC
  refine returnsInHanded_of_change own started noInit hfn witness ?_
  intro W base args ds gs before hval0 hW hcnd _
  have hval : ∀ (j : Nat) t v, fn.params[j]? = some t → args[j]? = some v → Value.okWide C.prog W .any base t v := hval0
  have hW' := hW
  obtain ⟨p, q, hA0, hV, rfl, hfz, hnd⟩ := hW
  have hA1 : DataW.TrodAll enc C.prog W 0 (fun _ => true) true fn.params.toList args.toList ds p := hA0
  rw [hsv] at hV
  obtain ⟨rfl, rfl⟩ := trodVars_none hV
  obtain ⟨avs, h1, h2⟩ := opens_list fn.params.toList Qs args.toList ds p hQ (fun j t v h1 h2 => hval j t v (by simpa using h1) (by simpa using h2)) hA1
  have hlen : ∀ (ts : List TypeId) (vs : List Value) (ds : List (DataW H)) (ps : List MemPlace), DataW.TrodAll enc C.prog W 0 (fun _ => true) true ts vs ds ps → ds.length = ts.length := by
    intro ts
    induction ts with
    | nil => intro vs ds ps h; obtain ⟨_, rfl, _⟩ := trodAll_nil h; rfl
    | cons t ts ih =>
      intro vs ds ps h
      obtain ⟨v, vs', d, ds', p, q, rfl, rfl, rfl, _, h2⟩ := trodAll_cons h
      simp [ih _ _ _ h2]
  have hr' : ∀ t ∈ fn.params.toList, C.prog.readableRec t = true ∧ t < C.prog.types.size := by
    intro t ht
    have := List.all_eq_true.1 hr t ht
    simpa using this
  exact row_of_apure hl hsv hW' hr' hres htb (hspec ds (by simpa using hlen _ _ _ _ hA1)) (fun g cs h => by rw [hTb] at h; cases h) (hA avs h1) h2

end Go.Own
