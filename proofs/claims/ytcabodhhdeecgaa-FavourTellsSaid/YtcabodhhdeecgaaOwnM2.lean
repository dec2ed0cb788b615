/-
  Maps with strings or integers as keys; structs compared; slices compared with nil.
-/
import Derived.Test.YtcabodhhdeecgaaOwnM
import Derived.MapKept
import Derived.Laws.StructEq
import Derived.Laws.Cover3
namespace Go.Own

def mget {K V : Type} [DecidableEq K] : List (K × V) → K → Option V
  | [], _ => none
  | (a, v) :: r, k => if a = k then some v else mget r k

def mset {K V : Type} [DecidableEq K] : List (K × V) → K → V → List (K × V)
  | [], k, x => [(k, x)]
  | (a, v) :: r, k, x => if a = k then (k, x) :: r else (a, v) :: mset r k x

theorem findNow_rel {K V : Type} [DecidableEq K] {kind : TypeDesc} {key : Value} {k : K} (Kr : Value → K → Prop) (hs : ∀ v a, Kr v a → Instr.sameNow kind key v = some (decide (a = k))) :
    ∀ (en : List MapEntry) (es : List (K × V)) (i : Nat), en.length = es.length → (∀ (j : Nat) (x : MapEntry) (p : K × V), en[j]? = some x → es[j]? = some p → Kr x.key p.1) →
      (∃ j x p, en[j]? = some x ∧ es[j]? = some p ∧ p.1 = k ∧ Instr.findNow kind key en i = some (some (i + j, x.val)) ∧ mget es k = some p.2 ∧ ∀ y, mset es k y = es.set j (k, y)) ∨
      (Instr.findNow kind key en i = some none ∧ mget es k = none ∧ ∀ y, mset es k y = es ++ [(k, y)])
  | [], es, i, hl, _ => by
    have : es = [] := List.eq_nil_of_length_eq_zero (by simpa using hl.symm)
    subst this
    exact .inr ⟨rfl, rfl, fun _ => rfl⟩
  | x :: en, [], i, hl, _ => by simp at hl
  | x :: en, (a, v) :: es, i, hl, hr => by
    have h0 := hs x.key a (hr 0 x (a, v) rfl rfl)
    by_cases e : a = k
    · left
      refine ⟨0, x, (a, v), rfl, rfl, e, ?_, by simp [mget, e], fun y => by simp [mset, e]⟩
      simp [Instr.findNow, h0, e]
    · rcases findNow_rel Kr hs en es (i + 1) (by simpa using hl) (fun j x p h1 h2 => hr (j + 1) x p (by simpa using h1) (by simpa using h2)) with ⟨j, x', p, h1, h2, h3, h4, h5, h6⟩ | ⟨h1, h2, h3⟩
      · refine .inl ⟨j + 1, x', p, by simpa using h1, by simpa using h2, h3, ?_, by simp [mget, e, h5], fun y => by simp [mset, e, h6]⟩
        simp only [Instr.findNow, h0, e, decide_false]
        rw [h4]
        congr 3
        omega
      · refine .inr ⟨?_, by simp [mget, e, h2], fun y => by simp [mset, e, h3]⟩
        simp only [Instr.findNow, h0, e, decide_false]
        exact h1

theorem beq_bytes (a b : ByteArray) : (a == b) = decide (a.data.toList = b.data.toList) := by
  rw [beq_toListBytes, ByteArray.toList_eq, ByteArray.toList_eq]
  by_cases e : a.data.toList = b.data.toList
  · simp [e]
  · simp only [e, decide_false]
    simpa using fun h => e (by rw [h])

theorem sameNow_str {key : ByteArray} {v : Value} {a : List UInt8} (h : ∃ s, v = .string s ∧ s.data.toList = a) : Instr.sameNow .string (.string key) v = some (decide (a = key.data.toList)) := by
  obtain ⟨s, rfl, rfl⟩ := h
  simp only [Instr.sameNow, Option.some.injEq, beq_bytes]
  by_cases e : s.data.toList = key.data.toList
  · simp [e]
  · have : ¬ key.data.toList = s.data.toList := fun h => e h.symm
    simp only [e, this, decide_false]

theorem sameNow_int {k : IntKind} {n : Int} {v : Value} {a : Int} (h : v = .int k a) : Instr.sameNow (.int k) (.int k n) v = some (decide (a = n)) := by
  subst h
  simp only [Instr.sameNow, if_true, Option.some.injEq]
  by_cases e : a = n
  · subst e; simp
  · have : ¬ n = a := fun h => e h.symm
    simp [e, this]

/-- A key of a plain kind. -/
inductive PlainKey (P : Program) (kt : TypeId) : TypeDesc → Value → Prop
  | str (s : ByteArray) (h : P.underlying kt = some .string) : PlainKey P kt .string (.string s)
  | int (k : IntKind) (n : Int) (h : P.underlying kt = some (.int k)) : PlainKey P kt (.int k) (.int k n)

theorem PlainKey.und {P : Program} {kt : TypeId} {d : TypeDesc} {v : Value} (h : PlainKey P kt d v) : P.underlying kt = some d := by cases h <;> assumption

theorem PlainKey.check {P : Program} {kt : TypeId} {d : TypeDesc} {v : Value} (h : PlainKey P kt d v) (em : Bool) (n : Nat) (w : World) : (Instr.checkKey em (n + 1) kt v).run P w = .ok () w := by
  cases h with
  | str s h => simp [Instr.checkKey, run_underlying h]
  | int k n h => simp [Instr.checkKey, run_underlying h]

theorem PlainKey.same {P : Program} {kt : TypeId} {d : TypeDesc} {v : Value} (h : PlainKey P kt d v) (n : Nat) : Instr.sameBits n v v = true := by
  cases h with
  | str s h => cases n <;> simp [Instr.sameBits, beq_bytes]
  | int k n h => rename_i q; cases q <;> simp [Instr.sameBits]

theorem run_lookup_map {P : Program} {w : World} {mt kt et : TypeId} {d : TypeDesc} {key : Value} {r clock : Nat} {en : Array MapEntry} {z : Value} {i : TypeInfo} (hm : P.underlying mt = some (.map kt et)) (hk : PlainKey P kt d key)
    (hi : P.info? et = some i) (hz : i.zero = some z) (hr : w.heap[r]? = some (.map en clock)) (ok : Bool) {f : Option (Nat × Value)} (hf : Instr.findNow d key en.toList 0 = some f) :
    (Instr.lookup mt (.map (some r)) key ok).run P w = .ok (if ok then .tuple #[(f.map (·.2)).getD z, .bool f.isSome] else (f.map (·.2)).getD z) w := by
  unfold Instr.lookup
  have hc := hk.check en.isEmpty 9999 w
  simp only [Sem.run_bind, run_underlying hm, Result.andThen_ok, MapKept.run_getObj_map hr]
  simp [hc, Instr.findKey, run_underlying hk.und, hf]
  cases f with
  | none => simp [zeroValue, typeInfo, hi, hz]
  | some f => simp

theorem run_lookup_nilmap {P : Program} {w : World} {mt kt et : TypeId} {d : TypeDesc} {key : Value} {z : Value} {i : TypeInfo} (hm : P.underlying mt = some (.map kt et)) (hk : PlainKey P kt d key)
    (hi : P.info? et = some i) (hz : i.zero = some z) (ok : Bool) :
    (Instr.lookup mt (.map none) key ok).run P w = .ok (if ok then .tuple #[z, .bool false] else z) w := by
  unfold Instr.lookup
  have hc := hk.check true 9999 w
  simp only [Sem.run_bind, run_underlying hm, Result.andThen_ok]
  simp [hc, Instr.findKey, run_underlying hk.und, Instr.findNow, zeroValue, typeInfo, hi, hz]

theorem run_mapUpdate_found {P : Program} {w : World} {mt kt et : TypeId} {d : TypeDesc} {key val : Value} {r clock : Nat} {en : Array MapEntry} (hm : P.underlying mt = some (.map kt et)) (hk : PlainKey P kt d key)
    (hr : w.heap[r]? = some (.map en clock)) {j : Nat} {x : MapEntry} (hj : en[j]? = some x) (hx : x.key = key) (hf : Instr.findNow d key en.toList 0 = some (some (j, x.val))) :
    (Instr.mapUpdate mt (.map (some r)) key val).run P w = .ok () { w with heap := w.heap.setIfInBounds r (.map (en.modify j fun e => { e with key, val }) clock) } := by
  unfold Instr.mapUpdate
  have hc := hk.check false 9999 w
  simp only [Sem.run_bind, run_underlying hm, Result.andThen_ok, MapKept.run_getObj_map hr]
  simp [hc, Instr.findKey, run_underlying hk.und, hf, hj, hx, Instr.keyThatStays, hk.same]
  exact MapKept.run_setObj_map _ hr

theorem run_mapUpdate_none {P : Program} {w : World} {mt kt et : TypeId} {d : TypeDesc} {key val : Value} {r clock : Nat} {en : Array MapEntry} (hm : P.underlying mt = some (.map kt et)) (hk : PlainKey P kt d key)
    (hr : w.heap[r]? = some (.map en clock)) (hf : Instr.findNow d key en.toList 0 = some none) :
    (Instr.mapUpdate mt (.map (some r)) key val).run P w = .ok () { w with heap := w.heap.setIfInBounds r (.map (en.push { key, val, born := clock }) (clock + 1)) } := by
  unfold Instr.mapUpdate
  have hc := hk.check false 9999 w
  simp only [Sem.run_bind, run_underlying hm, Result.andThen_ok, MapKept.run_getObj_map hr]
  simp [hc, Instr.findKey, run_underlying hk.und, hf]
  exact MapKept.run_setObj_map _ hr

/-- What stands at a map's place. -/
def MapAt {K V : Type} (Kr : Value → K → Prop) (S : Blocks) (w : World) (v : Value) (ev : V → AV) (es : List (K × V)) : Prop :=
  ∃ r en clock, v = .map (some r) ∧ w.heap[r]? = some (.map en clock) ∧ en.size = es.length ∧ ∀ (j : Nat) (x : MapEntry) (p : K × V), en[j]? = some x → es[j]? = some p → Kr x.key p.1 ∧ RelT S w x.val (ev p.2)

abbrev KrS (v : Value) (k : List UInt8) : Prop := ∃ s, v = .string s ∧ s.data.toList = k
abbrev KrI (q : IntKind) (v : Value) (k : Int) : Prop := v = .int q k

def lookV (ok : Bool) (v : AV) (b : Bool) : AV :=
  match ok with
  | true => .tup [v, .bool b]
  | false => v

def lookK (ok : Bool) (v : AV) (b : Bool) (c : AV → Prop) : Prop :=
  match ok with
  | true => c (.tup [v, .bool b])
  | false => c v

theorem lookK_iff {ok : Bool} {v : AV} {b : Bool} {c : AV → Prop} : lookK ok v b c ↔ c (lookV ok v b) := by cases ok <;> rfl

theorem look_sound {K V : Type} [DecidableEq K] {P : Program} {m : Ids} {S : Blocks} {w : World} {mt kt et : TypeId} {d : TypeDesc} {key : Value} {k : K} {i : TypeInfo} {z : Value} {Kr : Value → K → Prop} (hs : ∀ v a, Kr v a → Instr.sameNow d key v = some (decide (a = k)))
    {v : Value} {ev : V → AV} {dv : V} {es : List (K × V)} (h : MapAt Kr S w v ev es) (hm : P.underlying mt = some (.map kt et)) (hk : PlainKey P kt d key) (hi : P.info? et = some i) (hz : i.zero = some z) (hd : ev dv = avOf z) (ok : Bool) :
    ∃ u, (∀ w', Grows w w' → (Instr.lookup mt v key ok).run P w' = .ok u w') ∧ RelV m S w u (lookV ok (ev ((mget es k).getD dv)) (mget es k).isSome) := by
  obtain ⟨r, en, clock, rfl, hr, hlen, hrel⟩ := h
  have fin : ∀ (u : Value) (a : AV) (b : Bool), RelT S w u a → RelV m S w (if ok then .tuple #[u, .bool b] else u) (lookV ok a b) := by
    intro u a b hu
    cases ok with
    | false => exact .t _ _ hu
    | true =>
      refine .t _ _ (.tup _ _ (by simp) fun j c x hj hx => ?_)
      match j with
      | 0 => simp at hj hx; subst hj; subst hx; exact hu
      | 1 => simp at hj hx; subst hj; subst hx; exact .bool b
      | j + 2 => simp at hj
  rcases findNow_rel Kr hs en.toList es 0 (by simpa using hlen) (fun j x p h1 h2 => (hrel j x p (by simpa using h1) h2).1) with ⟨j, x, p, h1, h2, h3, h4, h5, _⟩ | ⟨h1, h2, _⟩
  · refine ⟨_, fun w' hw' => run_lookup_map hm hk hi hz (hw'.obj hr) ok h4, ?_⟩
    rw [h5]
    exact fin _ _ true (hrel j x p (by simpa using h1) h2).2
  · refine ⟨_, fun w' hw' => run_lookup_map hm hk hi hz (hw'.obj hr) ok h1, ?_⟩
    rw [h2]
    have : RelT S w z (ev dv) := by rw [hd]; exact relT_avOf S w z
    exact fin _ _ false this

theorem relV_int' {m : Ids} {S : Blocks} {w : World} {v : Value} {k : IntKind} {n : Int} (h : RelV m S w v (.int k n)) : v = .int k n := by
  cases h with
  | t _ _ h => cases h; rfl

theorem relV_str' {m : Ids} {S : Blocks} {w : World} {v : Value} {l : List UInt8} (h : RelV m S w v (.str l)) : ∃ s, v = .string s ∧ s.data.toList = l := by
  cases h with
  | t _ _ h => cases h; exact ⟨_, rfl, by assumption⟩

theorem relB_smap_at [Tabs] {m : Ids} {S : Blocks} {w : World} {H : Heap} {id : Nat} {V : Type} {ev : V → AV} {dv : V} {es : List (List UInt8 × V)} {v : Value} (hG : Good m S w H) (hid : lkH H id = .smap ev dv es) (hv : RelV m S w v (.map id)) : MapAt KrS S w v ev es := by
  have hb := hG.rel id
  rw [hid] at hb
  obtain ⟨r, en, clock, hmi, hr, hl, _, hrel⟩ := hb
  cases hv with
  | t _ _ h => cases h
  | map id r' hm =>
    rw [hmi] at hm
    cases hm
    exact ⟨r, en, clock, rfl, hr, hl, hrel⟩

theorem relB_imap_at [Tabs] {m : Ids} {S : Blocks} {w : World} {H : Heap} {id : Nat} {V : Type} {q : IntKind} {ev : V → AV} {dv : V} {es : List (Int × V)} {v : Value} (hG : Good m S w H) (hid : lkH H id = .imap q ev dv es) (hv : RelV m S w v (.map id)) : MapAt (KrI q) S w v ev es := by
  have hb := hG.rel id
  rw [hid] at hb
  obtain ⟨r, en, clock, hmi, hr, hl, _, hrel⟩ := hb
  cases hv with
  | t _ _ h => cases h
  | map id r' hm =>
    rw [hmi] at hm
    cases hm
    exact ⟨r, en, clock, rfl, hr, hl, hrel⟩

theorem relT_smap_at {m : Ids} {S : Blocks} {w : World} {V : Type} {ev : V → AV} {dv : V} {es : List (List UInt8 × V)} {v : Value} (hv : RelV m S w v (.rsmap ev dv es)) : MapAt KrS S w v ev es := by
  cases hv with
  | t _ _ h => cases h with
    | rsmap ev dv es r clock en hs hr hl hst hk hrel => exact ⟨r, en, clock, rfl, hr, hl, fun j x p h1 h2 => ⟨hk j x p h1 h2, hrel j x p h1 h2⟩⟩

theorem relT_imap_at {m : Ids} {S : Blocks} {w : World} {V : Type} {q : IntKind} {ev : V → AV} {dv : V} {es : List (Int × V)} {v : Value} (hv : RelV m S w v (.rimap q ev dv es)) : MapAt (KrI q) S w v ev es := by
  cases hv with
  | t _ _ h => cases h with
    | rimap q ev dv es r clock en hs hr hl hst hk hrel => exact ⟨r, en, clock, rfl, hr, hl, fun j x p h1 h2 => ⟨hk j x p h1 h2, hrel j x p h1 h2⟩⟩

def sameKind (q q1 q2 : IntKind) : Bool := Nat.beq (kidx q) (kidx q1) && Nat.beq (kidx q) (kidx q2)

theorem sameKind_eq {q q1 q2 : IntKind} (h : sameKind q q1 q2 = true) : q1 = q ∧ q2 = q := by
  simp only [sameKind, Bool.and_eq_true] at h
  exact ⟨(kidx_inj h.1).symm, (kidx_inj h.2).symm⟩

/-- A map of strings is asked. -/
def askS {V : Type} (T : Tab) (kt et : TypeId) (ev : V → AV) (dv : V) (es : List (List UInt8 × V)) (k : AV) (ok : Bool) (c : AV → Prop) : Prop :=
  match lkT T kt, lkT T et with
  | some ⟨.string, _, _, _⟩, some ei => match k with
    | .str l => ev dv = avOf ei.zero ∧ lookK ok (ev ((mget es l).getD dv)) (mget es l).isSome c
    | _ => False
  | _, _ => False

def askI {V : Type} (T : Tab) (kt et : TypeId) (q : IntKind) (ev : V → AV) (dv : V) (es : List (Int × V)) (k : AV) (ok : Bool) (c : AV → Prop) : Prop :=
  match lkT T kt, lkT T et with
  | some ⟨.int q1, _, _, _⟩, some ei => match k with
    | .int q2 n => match sameKind q q1 q2 with
      | true => ev dv = avOf ei.zero ∧ lookK ok (ev ((mget es n).getD dv)) (mget es n).isSome c
      | false => False
    | _ => False
  | _, _ => False

theorem askS_sound {P : Program} {T : Tab} (hT : TabOk P T) {V : Type} {mt kt et : TypeId} {ev : V → AV} {dv : V} {es : List (List UInt8 × V)} {k : AV} {ok : Bool} {c : AV → Prop} (h : askS T kt et ev dv es k ok c) (hm : P.underlying mt = some (.map kt et)) :
    ∃ a, c a ∧ ∀ {m : Ids} {S : Blocks} {w : World} {v kv : Value}, MapAt KrS S w v ev es → RelV m S w kv k → ∃ u, (∀ w', Grows w w' → (Instr.lookup mt v kv ok).run P w' = .ok u w') ∧ RelV m S w u a := by
  unfold askS at h
  split at h
  · rename_i a1 a2 a3 ei hk he
    obtain ⟨hku, _⟩ := hT kt _ hk
    obtain ⟨_, j, hj, _, _, hz⟩ := hT et _ he
    split at h
    · rename_i l
      refine ⟨_, lookK_iff.1 h.2, fun {m S w v kv} hat hkv => ?_⟩
      obtain ⟨s, rfl, rfl⟩ := relV_str' hkv
      exact look_sound (Kr := KrS) (fun v a hv => sameNow_str hv) hat hm (.str s hku) hj hz h.1 ok
    · exact h.elim
  · exact h.elim

theorem askI_sound {P : Program} {T : Tab} (hT : TabOk P T) {V : Type} {mt kt et : TypeId} {q : IntKind} {ev : V → AV} {dv : V} {es : List (Int × V)} {k : AV} {ok : Bool} {c : AV → Prop} (h : askI T kt et q ev dv es k ok c) (hm : P.underlying mt = some (.map kt et)) :
    ∃ a, c a ∧ ∀ {m : Ids} {S : Blocks} {w : World} {v kv : Value}, MapAt (KrI q) S w v ev es → RelV m S w kv k → ∃ u, (∀ w', Grows w w' → (Instr.lookup mt v kv ok).run P w' = .ok u w') ∧ RelV m S w u a := by
  unfold askI at h
  split at h
  · rename_i q1 a1 a2 a3 ei hk he
    obtain ⟨hku, _⟩ := hT kt _ hk
    obtain ⟨_, j, hj, _, _, hz⟩ := hT et _ he
    split at h
    · rename_i q2 n
      split at h
      · rename_i hq
        obtain ⟨rfl, rfl⟩ := sameKind_eq hq
        refine ⟨_, lookK_iff.1 h.2, fun {m S w v kv} hat hkv => ?_⟩
        have := relV_int' hkv
        subst this
        exact look_sound (Kr := KrI _) (fun v a hv => sameNow_int hv) hat hm (.int _ n hku) hj hz h.1 ok
      · exact h.elim
    · exact h.elim
  · exact h.elim

def evLookup (T : Tab) (H : Heap) (nx : Nat) (t : TypeId) (m k : AV) (ok : Bool) (c : Res → Prop) : Prop :=
  match lkT T t with
  | some ⟨.map kt et, _, _, _⟩ => match m with
    | .map id => match lkH H id with
      | .smap ev dv es => askS T kt et ev dv es k ok fun v => c ⟨v, [id], [], nx⟩
      | .imap q ev dv es => askI T kt et q ev dv es k ok fun v => c ⟨v, [id], [], nx⟩
      | _ => False
    | .rsmap ev dv es => askS T kt et ev dv es k ok fun v => c ⟨v, [], [], nx⟩
    | .rimap q ev dv es => askI T kt et q ev dv es k ok fun v => c ⟨v, [], [], nx⟩
    | .nilm => match lkT T kt with
      | some ⟨.string, _, _, _⟩ => match k with
        | .str _ => match lkT T et with
          | some ei => lookK ok (avOf ei.zero) false fun v => c ⟨v, [], [], nx⟩
          | none => False
        | _ => False
      | some ⟨.int q1, _, _, _⟩ => match k with
        | .int q2 _ => match sameKind q1 q1 q2 with
          | true => match lkT T et with
            | some ei => lookK ok (avOf ei.zero) false fun v => c ⟨v, [], [], nx⟩
            | none => False
          | false => False
        | _ => False
      | _ => False
    | _ => False
  | _ => False

theorem evLookup_sound [Tabs] {P : Program} {T : Tab} (hT : TabOk P T) {rd : Operand → AV} {H : Heap} {nx : Nat} {t : TypeId} {x y : Operand} {ok : Bool} {o : Oper} (ho : o.op = .lookup t x y ok) {k : Res → Prop}
    (h : evLookup T H nx t (rd x) (rd y) ok k) : ∃ r, OpSemP P o [(x, true, rd x), (y, true, rd y)] H nx r ∧ (r.wr = [] ∧ r.nx = nx) ∧ k r := by
  have fin : ∀ (v : AV) (touch : List Nat), k ⟨v, touch, [], nx⟩ → (∀ (m : Ids) (S : Blocks) (w : World) (a : Act) (H₂ : Heap), Good m S w H₂ → (∀ id ∈ touch, lkH H₂ id = lkH H id) → RelV m S w (a.eval x) (rd x) → RelV m S w (a.eval y) (rd y) →
      ∃ u, (∀ w', Grows w w' → (Instr.lookup t (a.eval x) (a.eval y) ok).run P w' = .ok u w') ∧ RelV m S w u v) →
      ∃ r, OpSemP P o [(x, true, rd x), (y, true, rd y)] H nx r ∧ (r.wr = [] ∧ r.nx = nx) ∧ k r := by
    intro v touch hk hs
    refine ⟨_, opsem_pure fun m S w a H₂ hG ht hus => ?_, ⟨rfl, rfl⟩, hk⟩
    obtain ⟨u, h1, h2⟩ := hs m S w a H₂ hG ht (hus (x, true, rd x) (by simp) rfl) (hus (y, true, rd y) (by simp) rfl)
    refine ⟨u, fun w' hw' => ?_, h2⟩
    unfold execOp
    simp [ho, h1 w' hw']
  unfold evLookup at h
  split at h
  · rename_i kt et a1 a2 a3 hi
    obtain ⟨hm, _⟩ := hT t _ hi
    split at h
    · rename_i id hx
      split at h
      · rename_i V ev dv es hid
        obtain ⟨v, hv, hs⟩ := askS_sound hT h hm
        refine fin v [id] hv fun m S w a H₂ hG ht h1 h2 => hs (relB_smap_at hG (by rw [ht id (by simp)]; exact hid) (by rw [hx] at h1; exact h1)) h2
      · rename_i V q ev dv es hid
        obtain ⟨v, hv, hs⟩ := askI_sound hT h hm
        refine fin v [id] hv fun m S w a H₂ hG ht h1 h2 => hs (relB_imap_at hG (by rw [ht id (by simp)]; exact hid) (by rw [hx] at h1; exact h1)) h2
      · exact h.elim
    · rename_i V ev dv es hx
      obtain ⟨v, hv, hs⟩ := askS_sound hT h hm
      refine fin v [] hv fun m S w a H₂ hG ht h1 h2 => hs (relT_smap_at (dv := dv) (by rw [hx] at h1; exact h1)) h2
    · rename_i V q ev dv es hx
      obtain ⟨v, hv, hs⟩ := askI_sound hT h hm
      refine fin v [] hv fun m S w a H₂ hG ht h1 h2 => hs (relT_imap_at (dv := dv) (by rw [hx] at h1; exact h1)) h2
    · rename_i hx
      have nilv : ∀ {m : Ids} {S : Blocks} {w : World} {v : Value}, RelV m S w v (rd x) → v = .map none := by
        intro m S w v h
        rw [hx] at h
        cases h with
        | t _ _ h => cases h; rfl
      have out : ∀ (ei : TI), lkT T et = some ei → (∀ (m : Ids) (S : Blocks) (w : World) (kv : Value), RelV m S w kv (rd y) → ∃ d, PlainKey P kt d kv) → (lookK ok (avOf ei.zero) false fun v => k ⟨v, [], [], nx⟩) →
          ∃ r, OpSemP P o [(x, true, rd x), (y, true, rd y)] H nx r ∧ (r.wr = [] ∧ r.nx = nx) ∧ k r := by
        intro ei he hkey hk
        obtain ⟨_, j, hj, _, _, hz⟩ := hT et _ he
        refine fin _ [] (lookK_iff.1 hk) fun m S w a H₂ hG ht h1 h2 => ?_
        obtain ⟨d, hpk⟩ := hkey m S w _ h2
        refine ⟨_, fun w' _ => by rw [nilv h1]; exact run_lookup_nilmap hm hpk hj hz ok, ?_⟩
        have hu := relT_avOf S w ei.zero
        cases ok with
        | false => exact .t _ _ hu
        | true =>
          refine .t _ _ (.tup _ _ (by simp) fun j c x hj hx => ?_)
          match j with
          | 0 => simp at hj hx; subst hj; subst hx; exact hu
          | 1 => simp at hj hx; subst hj; subst hx; exact .bool false
          | j + 2 => simp at hj
      split at h
      · rename_i b1 b2 b3 hk
        obtain ⟨hku, _⟩ := hT kt _ hk
        split at h
        · rename_i l hl
          split at h
          · rename_i ei he
            refine out ei he (fun m S w kv hkv => ?_) h
            rw [hl] at hkv
            obtain ⟨s, rfl, _⟩ := relV_str' hkv
            exact ⟨_, .str s hku⟩
          · exact h.elim
        · exact h.elim
      · rename_i q1 b1 b2 b3 hk
        obtain ⟨hku, _⟩ := hT kt _ hk
        split at h
        · rename_i q2 n hl
          split at h
          · rename_i hq
            obtain ⟨_, rfl⟩ := sameKind_eq hq
            split at h
            · rename_i ei he
              refine out ei he (fun m S w kv hkv => ?_) h
              rw [hl] at hkv
              rw [relV_int' hkv]
              exact ⟨_, .int _ n hku⟩
            · exact h.elim
          · exact h.elim
        · exact h.elim
      · exact h.elim
    · exact h.elim
  · exact h.elim

/-- A new map: nothing is in it, so it is of any kind. -/
def evMakeMap (nx : Nat) (k : Res → Prop) : Prop := k ⟨.map nx, [], [(nx, .smap (V := PUnit) (fun _ => .undef) ⟨⟩ [])], nx + 1⟩

theorem evMakeMap_sound [Tabs] {P : Program} {H : Heap} {nx : Nat} {t : TypeId} {o : Oper} (ho : o.op = .makeMap t none) {k : Res → Prop} (h : evMakeMap nx k) : ∃ r, OpSem P o [] H nx r ∧ nx ≤ r.nx ∧ k r := by
  refine ⟨_, fun m S w a H₂ K Q hG ht hf hus hK => ?_, Nat.le_succ _, h⟩
  have hrun : (execOp a.eval o).run P w = .ok (.value (.map (some w.heap.size))) (w.alloc (.map #[] 0)) := by
    unfold execOp
    simp [ho, Instr.makeMap, newObj]
    rfl
  unfold Oper.wp
  rw [hrun, Oper.upon_value]
  have hn : m nx = none := hf nx (Nat.le_refl _) (Nat.lt_succ_self _)
  refine hK _ _ _ _ (ext_new hG hn (.map (some w.heap.size)) _ _ rfl rfl rfl (by simp) (fun k hk => RowKit.Below.heap_alloc w _ k hk) (fun k hk => by simp [blk] at hk; omega) ?_) ?_
  · exact ⟨w.heap.size, #[], 0, by simp, heap_alloc_new w _, rfl, MapKept.stamped_empty 0, fun j x p hj => by simp at hj⟩
  · exact .map nx w.heap.size (by simp)

theorem mget_none {K V : Type} [DecidableEq K] : ∀ {es : List (K × V)} {k : K} {j : Nat} {p : K × V}, mget es k = none → es[j]? = some p → p.1 = k → False
  | [], _, _, _, _, h, _ => by simp at h
  | (a, v) :: es, k, 0, p, h, hj, hp => by
    simp at hj
    subst hj
    simp only at hp
    simp [mget, hp] at h
  | (a, v) :: es, k, j + 1, p, h, hj, hp => by
    unfold mget at h
    split at h
    · cases h
    · exact mget_none h (by simpa using hj) hp

/-- The entries after one was written. -/
theorem put_at {K V : Type} [DecidableEq K] {P : Program} {S S' : Blocks} {w w' : World} {mt kt et : TypeId} {d : TypeDesc} {key val : Value} {k : K} {y : V} {Kr : Value → K → Prop} (hs : ∀ v a, Kr v a → Instr.sameNow d key v = some (decide (a = k))) (hinj : ∀ v, Kr v k → v = key) (hkr : Kr key k) (hfun : ∀ a, Kr key a → a = k)
    {r clock : Nat} {en : Array MapEntry} {ev : V → AV} {es : List (K × V)} (hr : w.heap[r]? = some (.map en clock)) (hlen : en.size = es.length) (hb : MapKept.Stamped en clock)
    (hrel : ∀ (j : Nat) (x : MapEntry) (p : K × V), en[j]? = some x → es[j]? = some p → Kr x.key p.1 ∧ RelT S w x.val (ev p.2)) (hval : RelT S w val (ev y)) (hmono : ∀ {v : Value} {a : AV}, RelT S w v a → RelT S' w' v a)
    (hm : P.underlying mt = some (.map kt et)) (hk : PlainKey P kt d key) :
    ∃ en' clock', (Instr.mapUpdate mt (.map (some r)) key val).run P w = .ok () { w with heap := w.heap.setIfInBounds r (.map en' clock') } ∧ en'.size = (mset es k y).length ∧ MapKept.Stamped en' clock' ∧
      ∀ (j : Nat) (x : MapEntry) (p : K × V), en'[j]? = some x → (mset es k y)[j]? = some p → Kr x.key p.1 ∧ RelT S' w' x.val (ev p.2) := by
  rcases findNow_rel Kr hs en.toList es 0 (by simpa using hlen) (fun j x p h1 h2 => (hrel j x p (by simpa using h1) h2).1) with ⟨j, x, p, h1, h2, h3, h4, _, h6⟩ | ⟨h1, hnone, h3⟩
  · have h1' : en[j]? = some x := by simpa using h1
    have hxk : x.key = key := hinj _ (by rw [← h3]; exact (hrel j x p h1' h2).1)
    rw [Nat.zero_add] at h4
    refine ⟨_, _, run_mapUpdate_found hm hk hr h1' hxk h4, by rw [h6]; simp [hlen], MapKept.stamped_modify hb _ _ (fun _ _ => rfl) (fun e _ he => by
      have : en[j]? = some e := by simpa using he
      rw [h1'] at this
      cases this
      exact hxk.symm), fun i z q hz hq => ?_⟩
    · rw [h6, List.getElem?_set] at hq
      rw [Array.getElem?_modify] at hz
      by_cases e : j = i
      · subst e
        have hlt : j < es.length := (List.getElem?_eq_some_iff.1 h2).1
        rw [if_pos rfl, if_pos hlt] at hq
        rw [if_pos rfl, h1'] at hz
        simp at hz hq
        subst hz
        subst hq
        exact ⟨hkr, hmono hval⟩
      · rw [if_neg e] at hz hq
        exact ⟨(hrel i z q hz hq).1, hmono (hrel i z q hz hq).2⟩
  · refine ⟨_, _, run_mapUpdate_none hm hk hr h1, by rw [h3]; simp [hlen], MapKept.stamped_push hb (fun x hx e => ?_), fun i z q hz hq => ?_⟩
    · obtain ⟨j, hj⟩ := List.getElem?_of_mem hx
      have hj' : en[j]? = some x := by simpa using hj
      have hjl : j < es.length := by
        have := (Array.getElem?_eq_some_iff.1 hj').1
        omega
      have hp := (hrel j x _ hj' (List.getElem?_eq_getElem hjl)).1
      rw [e] at hp
      have ha := hfun _ hp
      exact mget_none hnone (List.getElem?_eq_getElem hjl) ha
    · rw [h3] at hq
      rw [Array.getElem?_push] at hz
      by_cases e : i = en.size
      · rw [if_pos e] at hz
        cases hz
        rw [List.getElem?_append_right (by omega), e, hlen] at hq
        simp at hq
        subst hq
        exact ⟨hkr, hmono hval⟩
      · rw [if_neg e] at hz
        have hlt : i < es.length := by
          have := (Array.getElem?_eq_some_iff.1 hz).1
          omega
        rw [List.getElem?_append_left hlt] at hq
        exact ⟨(hrel i z q hz hq).1, hmono (hrel i z q hz hq).2⟩

def evMapUpdate (T : Tab) (H : Heap) (nx : Nat) (t : TypeId) (m k v : AV) (c : Res → Prop) : Prop :=
  match lkT T t with
  | some ⟨.map kt _, _, _, _⟩ => match m with
    | .map id => match lkH H id with
      | .smap ev dv es => match lkT T kt with
        | some ⟨.string, _, _, _⟩ => match k with
          | .str l => match v.tree with
            | true => ∃ y, ev y = v ∧ c ⟨.undef, [id], [(id, .smap ev dv (mset es l y))], nx⟩
            | false => False
          | _ => False
        | _ => False
      | .imap q ev dv es => match lkT T kt with
        | some ⟨.int q1, _, _, _⟩ => match k with
          | .int q2 n => match sameKind q q1 q2 && v.tree with
            | true => ∃ y, ev y = v ∧ c ⟨.undef, [id], [(id, .imap q ev dv (mset es n y))], nx⟩
            | false => False
          | _ => False
        | _ => False
      | _ => False
    | _ => False
  | _ => False

theorem string_ext {a b : ByteArray} (h : a.data.toList = b.data.toList) : a = b := by
  obtain ⟨⟨x⟩⟩ := a
  obtain ⟨⟨y⟩⟩ := b
  simp at h
  rw [h]

theorem evMapUpdate_sound [Tabs] {P : Program} {T : Tab} (hT : TabOk P T) {rd : Operand → AV} {H : Heap} {nx : Nat} {t : TypeId} {x y z : Operand} {o : Oper} (ho : o.op = .mapUpdate t x y z) {k : Res → Prop}
    (h : evMapUpdate T H nx t (rd x) (rd y) (rd z) k) : ∃ r, OpSem P o [(x, true, rd x), (y, true, rd y), (z, true, rd z)] H nx r ∧ nx ≤ r.nx ∧ k r := by
  -- the block's new content, in the world
  have upd : ∀ {m : Ids} {S : Blocks} {w : World} {H₂ : Heap} {id r : Nat} {b b' : AB} {o' : Obj}, Good m S w H₂ → lkH H₂ id = b → b.live = true → m id = some (.map (some r)) → r < w.heap.size →
      (∀ {v : Value} {a : AV}, RelT S w v a → RelT S { w with heap := w.heap.setIfInBounds r o' } v a) → RelB m S { w with heap := w.heap.setIfInBounds r o' } id b' → Ext m S w H₂ nx nx m S { w with heap := w.heap.setIfInBounds r o' } ((id, b') :: H₂) := by
    intro m S w H₂ id r b b' o' hG hid hl hm hlt _ hb
    exact ext_upd hG (by rw [hid]; exact hl) hm rfl b' _ rfl rfl rfl (by simp) (fun k _ hne => by simp [Array.getElem?_setIfInBounds, Ne.symm hne]) hb
  unfold evMapUpdate at h
  split at h
  · rename_i kt et a1 a2 a3 hi
    obtain ⟨hm, _⟩ := hT t _ hi
    split at h
    · rename_i id hx
      split at h
      · rename_i V ev dv es hid
        split at h
        · rename_i b1 b2 b3 hk
          obtain ⟨hku, _⟩ := hT kt _ hk
          split at h
          · rename_i l hl
            split at h
            · rename_i htree
              obtain ⟨yv, hyv, hc⟩ := h
              refine ⟨_, fun m S w a H₂ K Q hG ht hf hus hK => ?_, Nat.le_refl _, hc⟩
              have h1 : RelV m S w (a.eval x) (rd x) := hus (x, true, rd x) (by simp) rfl
              have h2 : RelV m S w (a.eval y) (rd y) := hus (y, true, rd y) (by simp) rfl
              have h3 : RelV m S w (a.eval z) (rd z) := hus (z, true, rd z) (by simp) rfl
              rw [hx] at h1
              rw [hl] at h2
              have hid2 := ht id (by simp)
              have hb := hG.rel id
              rw [hid2, hid] at hb
              obtain ⟨r, en, clock, hmi, hr, hlen, hborn, hrel⟩ := hb
              obtain ⟨s, hsv, rfl⟩ := relV_str' h2
              have hmap : a.eval x = .map (some r) := by
                generalize a.eval x = v at h1
                cases h1 with
                | t _ _ h => cases h
                | map id r' hm => rw [hmi] at hm; cases hm; rfl
              have hlive : (lkH H₂ id).live = true := by rw [hid2, hid]; rfl
              have hlt : r < w.heap.size := (Array.getElem?_eq_some_iff.1 hr).1
              have hnS : ∀ g, S g → g ≠ r := fun g hg e => by
                subst e
                exact (hG.ro g hg).2 id _ hlive hmi rfl
              have hmono : ∀ (o' : Obj) {v : Value} {a : AV}, RelT S w v a → RelT S { w with heap := w.heap.setIfInBounds r o' } v a := fun o' v a h =>
                h.mono (fun _ h => h) fun g hg => by simp [Array.getElem?_setIfInBounds, (hnS g hg).symm]
              obtain ⟨en', clock', hrun, q1, q2, q3⟩ := put_at (S' := S) (w' := w) (Kr := KrS) (fun v a hv => sameNow_str hv) (fun v ⟨s', e1, e2⟩ => by rw [e1, string_ext e2]) ⟨s, rfl, rfl⟩ (fun a ⟨s', e1, e2⟩ => by cases e1; exact e2.symm) hr hlen hborn hrel (y := yv) (by rw [hyv]; exact h3.toT htree) (fun h => h) hm (.str s hku)
              unfold Oper.wp execOp
              simp only [ho, hmap, hsv, Sem.run_bind, hrun, Result.andThen_ok]
              show K (a.put o.dst undef) _
              refine hK undef m S _ (upd hG (b' := .smap ev dv (mset es s.data.toList yv)) rfl hlive hmi hlt (hmono _) ?_) (.t _ _ (.undef _))
              refine ⟨r, en', clock', hmi, by simp [hlt], q1, q2, fun j x p hj hp => ?_⟩
              exact ⟨(q3 j x p hj hp).1, hmono _ (q3 j x p hj hp).2⟩
            · exact h.elim
          · exact h.elim
        · exact h.elim
      · rename_i V q ev dv es hid
        split at h
        · rename_i q1 b1 b2 b3 hk
          obtain ⟨hku, _⟩ := hT kt _ hk
          split at h
          · rename_i q2 n hl
            split at h
            · rename_i hqt
              simp only [Bool.and_eq_true] at hqt
              obtain ⟨hq, htree⟩ := hqt
              obtain ⟨rfl, rfl⟩ := sameKind_eq hq
              obtain ⟨yv, hyv, hc⟩ := h
              refine ⟨_, fun m S w a H₂ K Q hG ht hf hus hK => ?_, Nat.le_refl _, hc⟩
              have h1 : RelV m S w (a.eval x) (rd x) := hus (x, true, rd x) (by simp) rfl
              have h2 : RelV m S w (a.eval y) (rd y) := hus (y, true, rd y) (by simp) rfl
              have h3 : RelV m S w (a.eval z) (rd z) := hus (z, true, rd z) (by simp) rfl
              rw [hx] at h1
              rw [hl] at h2
              have hid2 := ht id (by simp)
              have hb := hG.rel id
              rw [hid2, hid] at hb
              obtain ⟨r, en, clock, hmi, hr, hlen, hborn, hrel⟩ := hb
              have hsv := relV_int' h2
              have hmap : a.eval x = .map (some r) := by
                generalize a.eval x = v at h1
                cases h1 with
                | t _ _ h => cases h
                | map id r' hm => rw [hmi] at hm; cases hm; rfl
              have hlive : (lkH H₂ id).live = true := by rw [hid2, hid]; rfl
              have hlt : r < w.heap.size := (Array.getElem?_eq_some_iff.1 hr).1
              have hnS : ∀ g, S g → g ≠ r := fun g hg e => by
                subst e
                exact (hG.ro g hg).2 id _ hlive hmi rfl
              have hmono : ∀ (o' : Obj) {v : Value} {a : AV}, RelT S w v a → RelT S { w with heap := w.heap.setIfInBounds r o' } v a := fun o' v a h =>
                h.mono (fun _ h => h) fun g hg => by simp [Array.getElem?_setIfInBounds, (hnS g hg).symm]
              obtain ⟨en', clock', hrun, q1, q2, q3⟩ := put_at (S' := S) (w' := w) (Kr := KrI _) (fun v a hv => sameNow_int hv) (fun v e => e) rfl (fun a e => by cases e; rfl) hr hlen hborn hrel (y := yv) (by rw [hyv]; exact h3.toT htree) (fun h => h) hm (.int _ n hku)
              unfold Oper.wp execOp
              simp only [ho, hmap, hsv, Sem.run_bind, hrun, Result.andThen_ok]
              show K (a.put o.dst undef) _
              refine hK undef m S _ (upd hG (b' := .imap _ ev dv (mset es n yv)) rfl hlive hmi hlt (hmono _) ?_) (.t _ _ (.undef _))
              refine ⟨r, en', clock', hmi, by simp [hlt], q1, q2, fun j x p hj hp => ?_⟩
              exact ⟨(q3 j x p hj hp).1, hmono _ (q3 j x p hj hp).2⟩
            · exact h.elim
          · exact h.elim
        · exact h.elim
      · exact h.elim
    · exact h.elim
  · exact h.elim

end Go.Own
