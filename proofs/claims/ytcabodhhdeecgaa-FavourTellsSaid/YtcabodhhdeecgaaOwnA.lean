/-
  Abstract values for Go functions that compute: values as trees, the memory that a call makes itself as numbered objects; how they stand to the model's values and worlds.
-/
import Derived.WalkKit
import Derived.WalkSpells
import Derived.WalkLawsBesides
import Derived.MapKept
namespace Go.Own

/-- A value as a proof sees it. Trees (bool .. fn) own no memory; ptr .. map name an object of the call's own by its number. -/
inductive AV : Type 1 where
  | undef
  | bool (b : Bool)
  | int (k : IntKind) (n : Int)
  | str (s : List UInt8)
  | agg (l : List AV)
  | tup (l : List AV)
  | nilp
  | rop (l : List AV)
  | nils
  | lsl (E : Nat) (l : List AV)
  | sl {T : Type} (E : Nat) (enc : T → AV) (d : T) (xs : List T)
  | nilm
  | rsmap {V : Type} (ev : V → AV) (dv : V) (es : List (List UInt8 × V))
  | rimap {V : Type} (k : IntKind) (ev : V → AV) (dv : V) (es : List (Int × V))
  | nilf
  | fn (f : Fn) (first captured : List AV)
  | ptr (id off : Nat)
  | eptr (id E i off : Nat)
  | own (id : Nat)
  | pre (id len : Nat)
  | part (id E off len : Nat)
  | map (id : Nat)
  /-- What an operation gives that was not asked for. -/
  | skip
  /-- An array of integers. -/
  | iarr (k : IntKind) (n : Nat) (f : Nat → Int)
  /-- The address of an element of a queue. -/
  | qptr (id E i : Nat)
  /-- Some value of one cell. -/
  | any1

instance : Inhabited AV := ⟨.undef⟩

def AV.cells : AV → List AV
  | .agg l => l
  | v => [v]

/-- One cell holds it. -/
def AV.one : AV → Bool
  | .undef | .agg _ | .tup _ | .skip | .iarr .. => false
  | _ => true

def flat (l : List AV) : List AV := l.flatMap AV.cells

/-- An object of the call's own. -/
inductive AB : Type 1 where
  | dead
  | cells (e : TypeId) (l : List AV)
  | lst (e : TypeId) (E : Nat) (l : List AV)
  | row {T : Type} (e : TypeId) (E : Nat) (enc : T → AV) (d : T) (xs : List T)
  | smap {V : Type} (ev : V → AV) (dv : V) (es : List (List UInt8 × V))
  | imap {V : Type} (k : IntKind) (ev : V → AV) (dv : V) (es : List (Int × V))
  /-- An array of integers. -/
  | arr (e : TypeId) (k : IntKind) (n : Nat) (f : Nat → Int)
  /-- A row that begins anywhere in its block. -/
  | que {T : Type} (e : TypeId) (E : Nat) (enc : T → AV) (d : T) (xs : List T)

instance : Inhabited AB := ⟨.dead⟩

def kidx : IntKind → Nat
  | .i8 => 0 | .i16 => 1 | .i32 => 2 | .i64 => 3 | .u8 => 4 | .u16 => 5 | .u32 => 6 | .u64 => 7

theorem kidx_inj {a b : IntKind} (h : Nat.beq (kidx a) (kidx b) = true) : a = b := by
  cases a <;> cases b <;> first | rfl | (simp [kidx] at h)

abbrev Heap := List (Nat × AB)
abbrev Env := List (Nat × AV)

def lk : Env → Nat → AV
  | [], _ => .undef
  | (i, v) :: r, j => match Nat.beq i j with
    | true => v
    | false => lk r j

def lkH : Heap → Nat → AB
  | [], _ => .dead
  | (i, v) :: r, j => match Nat.beq i j with
    | true => v
    | false => lkH r j

def AB.live : AB → Bool
  | .dead => false
  | _ => true

abbrev Ids := Nat → Option Value
abbrev Blocks := Nat → Prop

def blk : Value → Option Nat
  | .pointer (some a) => some a.block
  | .slice (some a) _ _ => some a.block
  | .map (some r) => some r
  | _ => none

/-- A tree stands for a value: what it points to lies in blocks of S, which nobody writes. -/
inductive RelT (S : Blocks) (w : World) : Value → AV → Prop
  | undef (v : Value) : RelT S w v .undef
  | bool (b : Bool) : RelT S w (.bool b) (.bool b)
  | int (k : IntKind) (n : Int) : RelT S w (.int k n) (.int k n)
  | str (s : ByteArray) (l : List UInt8) (h : s.data.toList = l) : RelT S w (.string s) (.str l)
  | agg (cs : Array Value) (l : List AV) (hl : cs.size = l.length) (h : ∀ (j : Nat) (c : Value) (a : AV), cs[j]? = some c → l[j]? = some a → RelT S w c a) : RelT S w (.agg cs) (.agg l)
  | tup (cs : Array Value) (l : List AV) (hl : cs.size = l.length) (h : ∀ (j : Nat) (c : Value) (a : AV), cs[j]? = some c → l[j]? = some a → RelT S w c a) : RelT S w (.tuple cs) (.tup l)
  | nilp : RelT S w (.pointer none) .nilp
  | rop (g o : Nat) (l : List AV) (cs : List Value) (hs : S g) (hl : cs.length = l.length) (h1 : ∀ a ∈ l, a.one = true)
      (hc : ∀ (j : Nat) (c : Value), cs[j]? = some c → w.cell? ⟨g, o + j, none⟩ = some c) (h : ∀ (j : Nat) (c : Value) (a : AV), cs[j]? = some c → l[j]? = some a → RelT S w c a) :
      RelT S w (.pointer (some ⟨g, o, none⟩)) (.rop l)
  | nils : RelT S w (.slice none 0 0) .nils
  | lslnil (E : Nat) : RelT S w (.slice none 0 0) (.lsl E [])
  | lslz (E : Nat) (a : Addr) : RelT S w (.slice (some a) 0 0) (.lsl E [])
  | lsl (E : Nat) (l : List AV) (g o cap : Nat) (cs : List Value) (hs : S g) (hcap : l.length ≤ cap) (hE : ∀ x ∈ l, x.cells.length = E) (h1 : ∀ a ∈ flat l, a.one = true)
      (hl : cs.length = l.length * E) (hc : ∀ (j : Nat) (c : Value), cs[j]? = some c → w.cell? ⟨g, o + j, none⟩ = some c)
      (h : ∀ (j : Nat) (c : Value) (a : AV), cs[j]? = some c → (flat l)[j]? = some a → RelT S w c a) :
      RelT S w (.slice (some ⟨g, o, none⟩) l.length cap) (.lsl E l)
  | sl {T : Type} (E : Nat) (enc : T → AV) (d : T) (xs : List T) (v : Value) (h : RelT S w v (.lsl E (xs.map enc))) : RelT S w v (.sl E enc d xs)
  | nilm : RelT S w (.map none) .nilm
  | rsmap {V : Type} (ev : V → AV) (dv : V) (es : List (List UInt8 × V)) (r clock : Nat) (en : Array MapEntry) (hs : S r)
      (hr : w.heap[r]? = some (.map en clock)) (hl : en.size = es.length) (hst : MapKept.Stamped en clock)
      (hk : ∀ (j : Nat) (x : MapEntry) (p : List UInt8 × V), en[j]? = some x → es[j]? = some p → ∃ s, x.key = .string s ∧ s.data.toList = p.1)
      (hv : ∀ (j : Nat) (x : MapEntry) (p : List UInt8 × V), en[j]? = some x → es[j]? = some p → RelT S w x.val (ev p.2)) :
      RelT S w (.map (some r)) (.rsmap ev dv es)
  | rimap {V : Type} (k : IntKind) (ev : V → AV) (dv : V) (es : List (Int × V)) (r clock : Nat) (en : Array MapEntry) (hs : S r)
      (hr : w.heap[r]? = some (.map en clock)) (hl : en.size = es.length) (hst : MapKept.Stamped en clock)
      (hk : ∀ (j : Nat) (x : MapEntry) (p : Int × V), en[j]? = some x → es[j]? = some p → x.key = .int k p.1)
      (hv : ∀ (j : Nat) (x : MapEntry) (p : Int × V), en[j]? = some x → es[j]? = some p → RelT S w x.val (ev p.2)) :
      RelT S w (.map (some r)) (.rimap k ev dv es)
  | nilf : RelT S w .nilFunc .nilf
  | fn (f : Fn) (fs cs : Array Value) (lf lc : List AV) (hl : fs.size = lf.length) (hl' : cs.size = lc.length)
      (h : ∀ (j : Nat) (c : Value) (a : AV), fs[j]? = some c → lf[j]? = some a → RelT S w c a) (h' : ∀ (j : Nat) (c : Value) (a : AV), cs[j]? = some c → lc[j]? = some a → RelT S w c a) :
      RelT S w (.func f fs cs) (.fn f lf lc)
  | skip : RelT S w Go.undef .skip
  | iarr (k : IntKind) (n : Nat) (f : Nat → Int) (cs : Array Value) (hl : cs.size = n) (h : ∀ (j : Nat) (c : Value), cs[j]? = some c → c = .int k (f j)) : RelT S w (.agg cs) (.iarr k n f)
  | any1 (v : Value) (h : v.oneCell' = true) : RelT S w v .any1

/-- A value that may name objects of the call's own. -/
inductive RelV (m : Ids) (S : Blocks) (w : World) : Value → AV → Prop
  | t (v : Value) (a : AV) (h : RelT S w v a) : RelV m S w v a
  | agg (cs : Array Value) (l : List AV) (hl : cs.size = l.length) (h : ∀ (j : Nat) (c : Value) (a : AV), cs[j]? = some c → l[j]? = some a → RelV m S w c a) : RelV m S w (.agg cs) (.agg l)
  | tup (cs : Array Value) (l : List AV) (hl : cs.size = l.length) (h : ∀ (j : Nat) (c : Value) (a : AV), cs[j]? = some c → l[j]? = some a → RelV m S w c a) : RelV m S w (.tuple cs) (.tup l)
  | fn (f : Fn) (fs cs : Array Value) (lf lc : List AV) (hl : fs.size = lf.length) (hl' : cs.size = lc.length)
      (h : ∀ (j : Nat) (c : Value) (a : AV), fs[j]? = some c → lf[j]? = some a → RelV m S w c a) (h' : ∀ (j : Nat) (c : Value) (a : AV), cs[j]? = some c → lc[j]? = some a → RelV m S w c a) :
      RelV m S w (.func f fs cs) (.fn f lf lc)
  | ptr (id off g : Nat) (h : m id = some (.pointer (some ⟨g, 0, none⟩))) : RelV m S w (.pointer (some ⟨g, off, none⟩)) (.ptr id off)
  | eptr (id E i off g n cap : Nat) (h : m id = some (.slice (some ⟨g, 0, none⟩) n cap)) : RelV m S w (.pointer (some ⟨g, i * E + off, none⟩)) (.eptr id E i off)
  | own (id n cap : Nat) (a : Option Addr) (h : m id = some (.slice a n cap)) : RelV m S w (.slice a n cap) (.own id)
  | pre (id len n cap : Nat) (a : Option Addr) (h : m id = some (.slice a n cap)) (hle : len ≤ n) : RelV m S w (.slice a len cap) (.pre id len)
  | part (id E off len g n cap c : Nat) (h : m id = some (.slice (some ⟨g, 0, none⟩) n cap)) (hle : off + len ≤ n) (hc : len ≤ c) : RelV m S w (.slice (some ⟨g, off * E, none⟩) len c) (.part id E off len)
  | partE (id E off c g n cap : Nat) (h : m id = some (.slice (some ⟨g, 0, none⟩) n cap)) : RelV m S w (.slice (some ⟨g, 0, none⟩) 0 c) (.part id E off 0)
  | partN (id E off : Nat) : RelV m S w (.slice none 0 0) (.part id E off 0)
  | map (id r : Nat) (h : m id = some (.map (some r))) : RelV m S w (.map (some r)) (.map id)
  | qptr (id E i g o n cap : Nat) (h : m id = some (.slice (some ⟨g, o, none⟩) n cap)) : RelV m S w (.pointer (some ⟨g, o + i * E, none⟩)) (.qptr id E i)

/-- What a row's cells stand for. -/
structure RowRel (S : Blocks) (w : World) (e : TypeId) (E : Nat) (l : List AV) (v : Value) (vs : List Value) : Prop where
  owns : w.ownsRow 0 e E v l.length vs
  size : ∀ x ∈ l, x.cells.length = E
  ones : ∀ a ∈ flat l, a.one = true
  rel : ∀ (j : Nat) (c : Value) (a : AV), vs[j]? = some c → (flat l)[j]? = some a → RelT S w c a

/-- What the cells of a row that begins anywhere stand for. -/
structure QueRel (S : Blocks) (w : World) (e E : Nat) (l : List AV) (g o cap : Nat) (cur : Array Value) : Prop where
  at_ : w.heap[g]? = some (.cells cur e (0, 0))
  len : l.length ≤ cap
  max : cap ≤ maxLen
  room : o + cap * E ≤ cur.size
  size : ∀ x ∈ l, x.cells.length = E
  ones : ∀ a ∈ flat l, a.one = true
  rel : ∀ (j : Nat) (c : Value) (a : AV), cur[o + j]? = some c → (flat l)[j]? = some a → RelT S w c a

def RelB (m : Ids) (S : Blocks) (w : World) (id : Nat) : AB → Prop
  | .dead => True
  | .cells e l => ∃ g cs, m id = some (.pointer (some ⟨g, 0, none⟩)) ∧ w.heap[g]? = some (.cells cs e (0, 0)) ∧ cs.size = l.length ∧
      (∀ a ∈ l, a.one = true) ∧ (∀ (j : Nat) (c : Value) (a : AV), cs[j]? = some c → l[j]? = some a → RelV m S w c a)
  | .lst e E l => ∃ v vs, m id = some v ∧ RowRel S w e E l v vs
  | .row e E enc _ xs => ∃ v vs, m id = some v ∧ RowRel S w e E (xs.map enc) v vs
  | .smap ev _ es => ∃ r en clock, m id = some (.map (some r)) ∧ w.heap[r]? = some (.map en clock) ∧ en.size = es.length ∧ MapKept.Stamped en clock ∧
      (∀ (j : Nat) (x : MapEntry) p, en[j]? = some x → es[j]? = some p → (∃ s, x.key = .string s ∧ s.data.toList = p.1) ∧ RelT S w x.val (ev p.2))
  | .imap k ev _ es => ∃ r en clock, m id = some (.map (some r)) ∧ w.heap[r]? = some (.map en clock) ∧ en.size = es.length ∧ MapKept.Stamped en clock ∧
      (∀ (j : Nat) (x : MapEntry) p, en[j]? = some x → es[j]? = some p → x.key = .int k p.1 ∧ RelT S w x.val (ev p.2))
  | .arr e k n f => ∃ g cs, m id = some (.pointer (some ⟨g, 0, none⟩)) ∧ w.heap[g]? = some (.cells cs e (0, 0)) ∧ cs.size = n ∧ (∀ (j : Nat) (c : Value), cs[j]? = some c → c = .int k (f j))
  | .que e E enc _ xs => ∃ g o cap cur, m id = some (.slice (some ⟨g, o, none⟩) xs.length cap) ∧ QueRel S w e E (xs.map enc) g o cap cur

/-- Blocks that hold tables all the time: the listed package-level variables of a program. -/
class Tabs where
  held : Nat → Option (Array Value)

/-- The tables lie in blocks that nobody writes. -/
def TabAt [Tabs] (S : Blocks) (w : World) : Prop := ∀ g cs, Tabs.held g = some cs → S g ∧ ∃ e fz, w.heap[g]? = some (.cells cs e fz)

theorem TabAt.mono [Tabs] {S S' : Blocks} {w w' : World} (h : TabAt S w) (hS : ∀ g, S g → S' g) (hw : ∀ g, S g → w'.heap[g]? = w.heap[g]?) : TabAt S' w' := fun g cs hg => by
  obtain ⟨h1, e, fz, h2⟩ := h g cs hg
  exact ⟨hS g h1, e, fz, by rw [hw g h1]; exact h2⟩

/-- The objects lie apart, and apart from what nobody writes. -/
structure Good [Tabs] (m : Ids) (S : Blocks) (w : World) (H : Heap) : Prop where
  rel : ∀ id, RelB m S w id (lkH H id)
  sep : ∀ i j vi vj k, (lkH H i).live = true → (lkH H j).live = true → m i = some vi → m j = some vj → blk vi = some k → blk vj = some k → i = j
  ro : ∀ g, S g → g < w.heap.size ∧ ∀ i v, (lkH H i).live = true → m i = some v → blk v ≠ some g
  tab : TabAt S w

/-- The world w' is w, but for the blocks of F and new ones. -/
structure Far (F : Blocks) (w w' : World) : Prop where
  os : w'.os = w.os
  tape : w'.tape = w.tape
  output : w'.output = w.output
  size : w.heap.size ≤ w'.heap.size
  block : ∀ k, k < w.heap.size → ¬ F k → w'.heap[k]? = w.heap[k]?

/-- The blocks of the live objects. -/
def own (m : Ids) (H : Heap) : Blocks := fun k => ∃ i v, (lkH H i).live = true ∧ m i = some v ∧ blk v = some k

theorem Far.refl (F : Blocks) (w : World) : Far F w w := ⟨rfl, rfl, rfl, Nat.le_refl _, fun _ _ _ => rfl⟩

theorem Far.trans {F : Blocks} {a b c : World} (h : Far F a b) {G : Blocks} (k : Far G b c) (hG : ∀ i, i < a.heap.size → G i → F i) : Far F a c :=
  ⟨k.os.trans h.os, k.tape.trans h.tape, k.output.trans h.output, Nat.le_trans h.size k.size, fun i hi hn =>
    (k.block i (Nat.lt_of_lt_of_le hi h.size) (fun hg => hn (hG i hi hg))).trans (h.block i hi hn)⟩

theorem Far.below {F : Blocks} {w w' : World} (h : Far F w w') (hF : ∀ k, k < w.heap.size → ¬ F k) : RowKit.Below w.heap.size w w' :=
  ⟨h.os, h.tape, h.output, h.size, fun k hk => h.block k hk (hF k hk)⟩

theorem Far.of_below {F : Blocks} {w w' : World} (h : RowKit.Below w.heap.size w w') : Far F w w' :=
  ⟨h.os, h.tape, h.output, h.size, fun k hk _ => h.block k hk⟩

theorem RelT.mono {S S' : Blocks} {w w' : World} (hS : ∀ g, S g → S' g) (hk : ∀ g, S g → w'.heap[g]? = w.heap[g]?) {v : Value} {a : AV} (h : RelT S w v a) : RelT S' w' v a := by
  have hcell : ∀ g o, S g → w'.cell? ⟨g, o, none⟩ = w.cell? ⟨g, o, none⟩ := fun g o hg => World.cell?_of_block (w := w) (a := ⟨g, o, none⟩) (hk g hg)
  induction h with
  | undef v => exact .undef v
  | bool b => exact .bool b
  | int k n => exact .int k n
  | str s l h => exact .str s l h
  | agg cs l hl _ ih => exact .agg cs l hl ih
  | tup cs l hl _ ih => exact .tup cs l hl ih
  | nilp => exact .nilp
  | rop g o l cs hs hl h1 hc _ ih => exact .rop g o l cs (hS g hs) hl h1 (fun j c hj => by rw [hcell g _ hs]; exact hc j c hj) ih
  | nils => exact .nils
  | lslnil E => exact .lslnil E
  | lslz E a => exact .lslz E a
  | lsl E l g o cap cs hs hcap hE h1 hl hc _ ih => exact .lsl E l g o cap cs (hS g hs) hcap hE h1 hl (fun j c hj => by rw [hcell g _ hs]; exact hc j c hj) ih
  | sl E enc d xs v _ ih => exact .sl E enc d xs v ih
  | nilm => exact .nilm
  | rsmap ev dv es r clock en hs hr hl hst hk' _ ih => exact .rsmap ev dv es r clock en (hS r hs) (by rw [hk r hs]; exact hr) hl hst hk' ih
  | rimap k ev dv es r clock en hs hr hl hst hk' _ ih => exact .rimap k ev dv es r clock en (hS r hs) (by rw [hk r hs]; exact hr) hl hst hk' ih
  | nilf => exact .nilf
  | fn f fs cs lf lc hl hl' _ _ ih ih' => exact .fn f fs cs lf lc hl hl' ih ih'
  | skip => exact .skip
  | iarr k n f cs hl h => exact .iarr k n f cs hl h
  | any1 v h => exact .any1 v h

theorem RelV.mono {m m' : Ids} {S S' : Blocks} {w w' : World} (hm : ∀ i v, m i = some v → m' i = some v) (hS : ∀ g, S g → S' g) (hk : ∀ g, S g → w'.heap[g]? = w.heap[g]?)
    {v : Value} {a : AV} (h : RelV m S w v a) : RelV m' S' w' v a := by
  induction h with
  | t v a h => exact .t v a (h.mono hS hk)
  | agg cs l hl _ ih => exact .agg cs l hl ih
  | tup cs l hl _ ih => exact .tup cs l hl ih
  | fn f fs cs lf lc hl hl' _ _ ih ih' => exact .fn f fs cs lf lc hl hl' ih ih'
  | ptr id off g h => exact .ptr id off g (hm _ _ h)
  | eptr id E i off g n cap h => exact .eptr id E i off g n cap (hm _ _ h)
  | own id n cap a h => exact .own id n cap a (hm _ _ h)
  | pre id len n cap a h hle => exact .pre id len n cap a (hm _ _ h) hle
  | part id E off len g n cap c h hle hc => exact .part id E off len g n cap c (hm _ _ h) hle hc
  | partE id E off c g n cap h => exact .partE id E off c g n cap (hm _ _ h)
  | partN id E off => exact .partN id E off
  | map id r h => exact .map id r (hm _ _ h)
  | qptr id E i g o n cap h => exact .qptr id E i g o n cap (hm _ _ h)

theorem RowRel.mono {S S' : Blocks} {w w' : World} {e E : Nat} {l : List AV} {v : Value} {vs : List Value} (h : RowRel S w e E l v vs) (hS : ∀ g, S g → S' g) (hk : ∀ g, S g → w'.heap[g]? = w.heap[g]?)
    (hb : ∀ k, blk v = some k → w'.heap[k]? = w.heap[k]?) : RowRel S' w' e E l v vs := by
  refine ⟨?_, h.size, h.ones, fun j c a h1 h2 => (h.rel j c a h1 h2).mono hS hk⟩
  obtain ⟨hl, h2⟩ := h.owns
  refine ⟨hl, ?_⟩
  rcases h2 with h2 | ⟨g, cap, cur, hv, hg, hh, r⟩
  · exact Or.inl h2
  · exact Or.inr ⟨g, cap, cur, hv, hg, by rw [hb g (by rw [hv]; rfl)]; exact hh, r⟩

theorem RelB.mono {m m' : Ids} {S S' : Blocks} {w w' : World} {id : Nat} {b : AB} (h : RelB m S w id b) (hm : ∀ i v, m i = some v → m' i = some v) (hS : ∀ g, S g → S' g) (hk : ∀ g, S g → w'.heap[g]? = w.heap[g]?)
    (hb : ∀ v k, b.live = true → m id = some v → blk v = some k → w'.heap[k]? = w.heap[k]?) : RelB m' S' w' id b := by
  cases b with
  | dead => trivial
  | cells e l =>
    obtain ⟨g, cs, hmi, hg, hl, h1, hr⟩ := h
    exact ⟨g, cs, hm _ _ hmi, by rw [hb _ g rfl hmi rfl]; exact hg, hl, h1, fun j c a p q => (hr j c a p q).mono hm hS hk⟩
  | lst e E l =>
    obtain ⟨v, vs, hmi, hr⟩ := h
    exact ⟨v, vs, hm _ _ hmi, hr.mono hS hk (fun k hk' => hb v k rfl hmi hk')⟩
  | row e E enc d xs =>
    obtain ⟨v, vs, hmi, hr⟩ := h
    exact ⟨v, vs, hm _ _ hmi, hr.mono hS hk (fun k hk' => hb v k rfl hmi hk')⟩
  | smap ev dv es =>
    obtain ⟨r, en, clock, hmi, hr, hl, hb', h2⟩ := h
    exact ⟨r, en, clock, hm _ _ hmi, by rw [hb _ r rfl hmi rfl]; exact hr, hl, hb', fun j x p q q' => ⟨(h2 j x p q q').1, (h2 j x p q q').2.mono hS hk⟩⟩
  | imap k ev dv es =>
    obtain ⟨r, en, clock, hmi, hr, hl, hb', h2⟩ := h
    exact ⟨r, en, clock, hm _ _ hmi, by rw [hb _ r rfl hmi rfl]; exact hr, hl, hb', fun j x p q q' => ⟨(h2 j x p q q').1, (h2 j x p q q').2.mono hS hk⟩⟩
  | arr e k n f =>
    obtain ⟨g, cs, hmi, hg, hl, hr⟩ := h
    exact ⟨g, cs, hm _ _ hmi, by rw [hb _ g rfl hmi rfl]; exact hg, hl, hr⟩
  | que e E enc d xs =>
    obtain ⟨g, o, cap, cur, hmi, hr⟩ := h
    exact ⟨g, o, cap, cur, hm _ _ hmi, by rw [hb _ g rfl hmi rfl]; exact hr.at_, hr.len, hr.max, hr.room, hr.size, hr.ones, fun j c a p q => (hr.rel j c a p q).mono hS hk⟩

/-- An object's own block lies in the heap. -/
theorem RelB.blk_lt {m : Ids} {S : Blocks} {w : World} {id : Nat} {b : AB} (h : RelB m S w id b) (hl : b.live = true) {v : Value} {k : Nat} (hv : m id = some v) (hk : blk v = some k) : k < w.heap.size := by
  have lt : ∀ {o : Obj}, w.heap[k]? = some o → k < w.heap.size := fun h => (Array.getElem?_eq_some_iff.1 h).1
  cases b with
  | dead => simp [AB.live] at hl
  | cells e l =>
    obtain ⟨g, cs, hmi, hg, _⟩ := h
    rw [hmi] at hv; cases hv; simp [blk] at hk; subst hk; exact lt hg
  | lst e E l =>
    obtain ⟨v', vs, hmi, hr⟩ := h
    rw [hmi] at hv; cases hv
    rcases hr.owns.2 with ⟨rfl, _⟩ | ⟨g, cap, cur, rfl, _, hh, _⟩
    · simp [blk] at hk
    · simp [blk] at hk; subst hk; exact lt hh
  | row e E enc d xs =>
    obtain ⟨v', vs, hmi, hr⟩ := h
    rw [hmi] at hv; cases hv
    rcases hr.owns.2 with ⟨rfl, _⟩ | ⟨g, cap, cur, rfl, _, hh, _⟩
    · simp [blk] at hk
    · simp [blk] at hk; subst hk; exact lt hh
  | smap ev dv es =>
    obtain ⟨r, en, clock, hmi, hr, _⟩ := h
    rw [hmi] at hv; cases hv; simp [blk] at hk; subst hk; exact lt hr
  | imap k' ev dv es =>
    obtain ⟨r, en, clock, hmi, hr, _⟩ := h
    rw [hmi] at hv; cases hv; simp [blk] at hk; subst hk; exact lt hr
  | arr e k' n f =>
    obtain ⟨g, cs, hmi, hg, _⟩ := h
    rw [hmi] at hv; cases hv; simp [blk] at hk; subst hk; exact lt hg
  | que e E enc d xs =>
    obtain ⟨g, o, cap, cur, hmi, hr⟩ := h
    rw [hmi] at hv; cases hv; simp [blk] at hk; subst hk; exact lt hr.at_

theorem RelT.oneCell {S : Blocks} {w : World} {v : Value} {a : AV} (h : RelT S w v a) (h1 : a.one = true) : v.oneCell' = true := by
  induction h <;> first | rfl | (simp [AV.one] at h1; done) | assumption | skip
  case sl E enc d xs v h ih => exact ih rfl

theorem RelV.oneCell {m : Ids} {S : Blocks} {w : World} {v : Value} {a : AV} (h : RelV m S w v a) (h1 : a.one = true) : v.oneCell' = true := by
  cases h with
  | t v a h => exact h.oneCell h1
  | agg cs l hl h => simp [AV.one] at h1
  | tup cs l hl h => simp [AV.one] at h1
  | _ => rfl

end Go.Own
