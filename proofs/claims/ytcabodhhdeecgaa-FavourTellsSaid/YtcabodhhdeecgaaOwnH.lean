/-
  Elements, lengths, parts of slices and strings; append.
-/
import Derived.Test.YtcabodhhdeecgaaOwnG
namespace Go.Own

theorem relT_lsl {S : Blocks} {w : World} {v : Value} {E : Nat} {l : List AV} (h : RelT S w v (.lsl E l)) :
    ((v = .slice none 0 0 ∨ ∃ a, v = .slice (some a) 0 0) ∧ l = []) ∨ ∃ (g o cap : Nat) (cs : List Value), v = .slice (some ⟨g, o, none⟩) l.length cap ∧ S g ∧ l.length ≤ cap ∧ (∀ x ∈ l, x.cells.length = E) ∧ (∀ a ∈ flat l, a.one = true) ∧
      cs.length = l.length * E ∧ (∀ (j : Nat) (c : Value), cs[j]? = some c → w.cell? ⟨g, o + j, none⟩ = some c) ∧ (∀ (j : Nat) (c : Value) (a : AV), cs[j]? = some c → (flat l)[j]? = some a → RelT S w c a) := by
  cases h with
  | lslnil E => exact .inl ⟨.inl rfl, rfl⟩
  | lslz E a => exact .inl ⟨.inr ⟨a, rfl⟩, rfl⟩
  | lsl E l g o cap cs hs hcap hE h1 hl hc h => exact .inr ⟨g, o, cap, cs, rfl, hs, hcap, hE, h1, hl, hc, h⟩

theorem relV_lsl {m : Ids} {S : Blocks} {w : World} {v : Value} {E : Nat} {l : List AV} (h : RelV m S w v (.lsl E l)) : RelT S w v (.lsl E l) := by
  cases h with
  | t _ _ h => exact h

theorem relV_sl {m : Ids} {S : Blocks} {w : World} {v : Value} {T : Type} {E : Nat} {enc : T → AV} {d : T} {xs : List T} (h : RelV m S w v (.sl E enc d xs)) : RelT S w v (.lsl E (xs.map enc)) := by
  cases h with
  | t _ _ h => cases h with
    | sl E enc d xs v h => exact h

/-- The length of a slice whose elements are known. -/
inductive SliceN : Value → Nat → Prop
  | mk (a : Option Addr) (n cap : Nat) : SliceN (.slice a n cap) n

theorem lsl_n {S : Blocks} {w : World} {v : Value} {E : Nat} {l : List AV} (h : RelT S w v (.lsl E l)) : SliceN v l.length := by
  rcases relT_lsl h with ⟨rfl | ⟨a, rfl⟩, rfl⟩ | ⟨g, o, cap, cs, rfl, _⟩ <;> constructor

theorem RowRel.n {S : Blocks} {w : World} {e E : Nat} {l : List AV} {v : Value} {vs : List Value} (h : RowRel S w e E l v vs) : SliceN v l.length := by
  rcases h.owns.2 with ⟨rfl, h0⟩ | ⟨g, cap, cur, rfl, _⟩
  · rw [h0]; constructor
  · constructor

/-- How long a slice is. -/
def slN (H : Heap) (x : AV) (k : Nat → List Nat → Prop) : Prop :=
  match x with
  | .nils => k 0 []
  | .lsl _ l => k l.length []
  | .sl _ _ _ xs => k xs.length []
  | .own id => match lkH H id with
    | .lst _ _ l => k l.length [id]
    | .row _ _ _ _ xs => k xs.length [id]
    | _ => False
  | .pre _ n => k n []
  | .part _ _ _ n => k n []
  | _ => False

theorem slN_sound [Tabs] {H : Heap} {x : AV} {k : Nat → List Nat → Prop} (h : slN H x k) :
    ∃ (n : Nat) (touch : List Nat), (∀ (m : Ids) (S : Blocks) (w : World) (H₂ : Heap) (v : Value), Good m S w H₂ → (∀ id ∈ touch, lkH H₂ id = lkH H id) → RelV m S w v x → SliceN v n) ∧ k n touch := by
  unfold slN at h
  split at h
  · refine ⟨_, _, fun m S w H₂ v _ _ hr => ?_, h⟩
    cases hr with
    | t _ _ h => cases h; constructor
  · exact ⟨_, _, fun m S w H₂ v _ _ hr => lsl_n (relV_lsl hr), h⟩
  · exact ⟨_, _, fun m S w H₂ v _ _ hr => by simpa using lsl_n (relV_sl hr), h⟩
  · rename_i id
    split at h
    · rename_i e E l hid
      refine ⟨_, _, fun m S w H₂ v hG ht hr => ?_, h⟩
      have hb := hG.rel id
      rw [ht id (by simp), hid] at hb
      obtain ⟨v', vs, hmi, hrow⟩ := hb
      cases hr with
      | t _ _ h => cases h
      | own id n cap a hm => rw [hmi] at hm; cases hm; exact hrow.n
    · rename_i T e E enc d xs hid
      refine ⟨_, _, fun m S w H₂ v hG ht hr => ?_, h⟩
      have hb := hG.rel id
      rw [ht id (by simp), hid] at hb
      obtain ⟨v', vs, hmi, hrow⟩ := hb
      cases hr with
      | t _ _ h => cases h
      | own id n cap a hm => rw [hmi] at hm; cases hm; simpa using hrow.n
    · exact h.elim
  · refine ⟨_, _, fun m S w H₂ v hG ht hr => ?_, h⟩
    cases hr with
    | t _ _ h => cases h
    | pre id len n cap a h hle => constructor
  · refine ⟨_, _, fun m S w H₂ v hG ht hr => ?_, h⟩
    cases hr with
    | t _ _ h => cases h
    | part id E off len g n cap c h hle hc => constructor
    | partE id E off c g n cap h => constructor
    | partN id E off => constructor
  · exact h.elim

/-- How many entries a map has. -/
def mapN (H : Heap) (x : AV) (k : Nat → List Nat → Prop) : Prop :=
  match x with
  | .nilm => k 0 []
  | .map id => match lkH H id with
    | .smap _ _ es => k es.length [id]
    | .imap _ _ _ es => k es.length [id]
    | _ => False
  | .rsmap _ _ es => k es.length []
  | .rimap _ _ _ es => k es.length []
  | _ => False

theorem mapN_sound [Tabs] {P : Program} {t ty kt et : TypeId} (hu : P.underlying t = some (.map kt et)) {H : Heap} {x : AV} {k : Nat → List Nat → Prop} (h : mapN H x k) :
    ∃ (n : Nat) (touch : List Nat), (∀ (m : Ids) (S : Blocks) (w : World) (H₂ : Heap) (v : Value), Good m S w H₂ → (∀ id ∈ touch, lkH H₂ id = lkH H id) → RelV m S w v x → ∀ w', Grows w w' → (Builtin.len_ #[t] ty #[v]).run P w' = .ok (goInt (n : Nat)) w') ∧ k n touch := by
  have fin : ∀ (w : World) (r clock : Nat) (en : Array MapEntry) (n : Nat), w.heap[r]? = some (.map en clock) → en.size = n → (Builtin.len_ #[t] ty #[.map (some r)]).run P w = .ok (goInt n) w := by
    intro w r clock en n hr hn
    have hg : (getObj r).run P w = .ok (.map en clock) w := by simp [getObj, Sem.run, hr]
    simp [Builtin.len_, run_underlying hu, hg, hn]
  unfold mapN at h
  split at h
  · refine ⟨_, _, fun m S w H₂ v _ _ hr => ?_, h⟩
    intro w' _
    cases hr with
    | t _ _ h => cases h; simp [Builtin.len_, run_underlying hu]
  · rename_i id
    split at h
    · rename_i V ev dv es hid
      refine ⟨_, _, fun m S w H₂ v hG ht hr => ?_, h⟩
      have hb := hG.rel id
      rw [ht id (by simp), hid] at hb
      obtain ⟨r, en, clock, hmi, hr', hl, _⟩ := hb
      cases hr with
      | t _ _ h => cases h
      | map id r' hm => rw [hmi] at hm; cases hm; exact fun w' hw' => fin w' r clock en _ (hw'.obj hr') hl
    · rename_i V kk ev dv es hid
      refine ⟨_, _, fun m S w H₂ v hG ht hr => ?_, h⟩
      have hb := hG.rel id
      rw [ht id (by simp), hid] at hb
      obtain ⟨r, en, clock, hmi, hr', hl, _⟩ := hb
      cases hr with
      | t _ _ h => cases h
      | map id r' hm => rw [hmi] at hm; cases hm; exact fun w' hw' => fin w' r clock en _ (hw'.obj hr') hl
    · exact h.elim
  · refine ⟨_, _, fun m S w H₂ v _ _ hr => ?_, h⟩
    cases hr with
    | t _ _ h => cases h with
      | rsmap ev dv es r clock en hs hr hl hst hk hv => exact fun w' hw' => fin w' r clock en _ (hw'.obj hr) hl
  · refine ⟨_, _, fun m S w H₂ v _ _ hr => ?_, h⟩
    cases hr with
    | t _ _ h => cases h with
      | rimap k ev dv es r clock en hs hr hl hst hk hv => exact fun w' hw' => fin w' r clock en _ (hw'.obj hr) hl
  · exact h.elim

/-- len -/
def evLen (T : Tab) (H : Heap) (nx : Nat) (t : TypeId) (x : AV) (k : Res → Prop) : Prop :=
  match lkT T t with
  | some ⟨.string, _, _, _⟩ => match x with
    | .str s => k ⟨.int .i64 s.length, [], [], nx⟩
    | _ => False
  | some ⟨.slice _, _, _, _⟩ => slN H x fun n touch => k ⟨.int .i64 n, touch, [], nx⟩
  | some ⟨.map _ _, _, _, _⟩ => mapN H x fun n touch => k ⟨.int .i64 n, touch, [], nx⟩
  | some ⟨.array n _, _, _, _⟩ => k ⟨.int .i64 n, [], [], nx⟩
  | _ => False

theorem run_len_sl {P : Program} {t ty e : TypeId} (hu : P.underlying t = some (.slice e)) {v : Value} {n : Nat} (h : SliceN v n) (w : World) :
    (Builtin.len_ #[t] ty #[v]).run P w = .ok (goInt n) w := by
  cases h
  simp [Builtin.len_, run_underlying hu]

theorem evLen_sound [Tabs] {P : Program} {T : Tab} (hT : TabOk P T) {rd : Operand → AV} {H : Heap} {nx : Nat} {t : TypeId} {x : Operand} {o : Oper}
    (ho : o.op = .call { callee := .builtin .len, args := #[x], argTypes := #[t] }) {k : Res → Prop}
    (h : evLen T H nx t (rd x) k) : ∃ r, OpSemP P o [(x, true, rd x)] H nx r ∧ (r.wr = [] ∧ r.nx = nx) ∧ k r := by
  have fin : ∀ (n : Nat) (touch : List Nat), (∀ (m : Ids) (S : Blocks) (w : World) (H₂ : Heap) (v : Value), Good m S w H₂ → (∀ id ∈ touch, lkH H₂ id = lkH H id) → RelV m S w v (rd x) → ∀ w', Grows w w' → (Builtin.len_ #[t] o.type #[v]).run P w' = .ok (goInt n) w') →
      k ⟨.int .i64 n, touch, [], nx⟩ → ∃ r, OpSemP P o [(x, true, rd x)] H nx r ∧ (r.wr = [] ∧ r.nx = nx) ∧ k r := by
    intro n touch hrun hk
    refine ⟨_, opsem_pure fun m S w a H₂ hG ht hus => ?_, ⟨rfl, rfl⟩, hk⟩
    have hx : RelV m S w (a.eval x) (rd x) := hus _ (List.mem_singleton.2 rfl) rfl
    refine ⟨goInt n, ?_, .t _ _ (.int .i64 n)⟩
    intro w' hw'
    have := hrun m S w H₂ _ hG ht hx w' hw'
    unfold execOp
    simp [ho, resolve, invoke, builtin, this]
  unfold evLen at h
  split at h
  · rename_i hi
    obtain ⟨hu, _⟩ := hT t _ hi
    simp only at hu
    split at h
    · rename_i s hp
      refine fin _ _ (fun m S w H₂ v hG ht hr w' _ => ?_) h
      rw [hp] at hr
      cases hr with
      | t _ _ h => cases h with
        | str s' l h => simp [Builtin.len_, run_underlying hu, ← h]
    · exact h.elim
  · rename_i hi
    obtain ⟨hu, _⟩ := hT t _ hi
    simp only at hu
    obtain ⟨n, touch, hn, hk⟩ := slN_sound h
    exact fin n touch (fun m S w H₂ v hG ht hr w' _ => run_len_sl hu (hn m S w H₂ v hG ht hr) w') hk
  · rename_i hi
    obtain ⟨hu, _⟩ := hT t _ hi
    simp only at hu
    obtain ⟨n, touch, hn, hk⟩ := mapN_sound (ty := o.type) hu h
    exact fin n touch hn hk
  · rename_i hi
    obtain ⟨hu, _⟩ := hT t _ hi
    simp only at hu
    exact fin _ _ (fun m S w H₂ v hG ht hr w' _ => by simp [Builtin.len_, run_underlying hu]) h
  · exact h.elim

def isRow : AB → Bool
  | .lst .. | .row .. => true
  | _ => false

theorem row_addr [Tabs] {m : Ids} {S : Blocks} {w : World} {H : Heap} (hG : Good m S w H) {id n cap : Nat} {a : Option Addr} (hr : isRow (lkH H id) = true) (hm : m id = some (.slice a n cap)) :
    (a = none ∧ n = 0 ∧ cap = 0) ∨ ∃ g, a = some ⟨g, 0, none⟩ := by
  have fin : ∀ {e E : Nat} {l : List AV} {vs : List Value}, RowRel S w e E l (.slice a n cap) vs → (a = none ∧ n = 0 ∧ cap = 0) ∨ ∃ g, a = some ⟨g, 0, none⟩ := by
    intro e E l vs h
    rcases h.owns.2 with ⟨h, h0⟩ | ⟨g, cap, cur, h, _⟩
    · cases h; exact .inl ⟨rfl, rfl, rfl⟩
    · cases h; exact .inr ⟨g, rfl⟩
  have hb := hG.rel id
  cases hc : lkH H id with
  | lst e E l => rw [hc] at hb; obtain ⟨v, vs, hmi, h⟩ := hb; rw [hmi] at hm; cases hm; exact fin h
  | row e E enc d xs => rw [hc] at hb; obtain ⟨v, vs, hmi, h⟩ := hb; rw [hmi] at hm; cases hm; exact fin h
  | _ => rw [hc] at hr; simp [isRow] at hr

/-- The address of an element. -/
def evIndexAddr (T : Tab) (g : Option Bool) (H : Heap) (nx : Nat) (t : TypeId) (x i : AV) (k : Res → Prop) : Prop :=
  match lkT T t with
  | some ⟨.slice e, _, _, _⟩ => match lkT T e with
    | none => False
    | some ie => match i with
      | .int _ n => match x with
        | .lsl E l => ob g (0 ≤ n ∧ n < l.length) (ie.size = E ∧ k ⟨.rop (l.getD n.toNat .undef).cells, [], [], nx⟩)
        | .sl E enc d xs => ob g (0 ≤ n ∧ n < xs.length) (ie.size = E ∧ k ⟨.rop (enc (xs.getD n.toNat d)).cells, [], [], nx⟩)
        | .own id => slN H (.own id) fun len _ => ob g (0 ≤ n ∧ n < len) (k ⟨.eptr id ie.size n.toNat 0, [id], [], nx⟩)
        | .pre id len => match isRow (lkH H id) with
          | true => ob g (0 ≤ n ∧ n < len) (k ⟨.eptr id ie.size n.toNat 0, [id], [], nx⟩)
          | false => False
        | _ => False
      | _ => False
  | some ⟨.array len e, _, _, _⟩ => match lkT T e with
    | none => False
    | some ie => match i, x with
      | .int _ n, .ptr id off => ob g (0 ≤ n ∧ n < len) (k ⟨.ptr id (off + n.toNat * ie.size), [], [], nx⟩)
      | _, _ => False
  | _ => False

theorem run_indexAt_sl {P : Program} {t e : TypeId} (hu : P.underlying t = some (.slice e)) {j : TypeInfo} (hj : P.info? e = some j) (w : World) (g o n cap : Nat) (kk : IntKind) (i : Int) (h0 : 0 ≤ i) (h1 : i < n) :
    (Instr.indexAt t (.slice (some ⟨g, o, none⟩) n cap) (.int kk i)).run P w = .ok (.pointer (some ⟨g, o + i.toNat * j.size, none⟩)) w := by
  simp [Instr.indexAt, run_underlying hu, asIntOf, h0, h1, sizeOf, typeInfo, hj, Addr.add_mid]

theorem relV_int {m : Ids} {S : Blocks} {w : World} {v : Value} {kk : IntKind} {n : Int} (h : RelV m S w v (.int kk n)) : v = .int kk n := by
  cases h with
  | t _ _ h => cases h; rfl

theorem lsl_elem {S : Blocks} {w : World} {g o cap E : Nat} {l : List AV} {cs : List Value} (hs : S g) (hE : ∀ x ∈ l, x.cells.length = E) (h1 : ∀ a ∈ flat l, a.one = true) (hl : cs.length = l.length * E)
    (hc : ∀ (j : Nat) (c : Value), cs[j]? = some c → w.cell? ⟨g, o + j, none⟩ = some c) (h : ∀ (j : Nat) (c : Value) (a : AV), cs[j]? = some c → (flat l)[j]? = some a → RelT S w c a) {i : Nat} (hi : i < l.length) :
    RelT S w (.pointer (some ⟨g, o + i * E, none⟩)) (.rop (l.getD i .undef).cells) := by
  have hx : l[i]? = some (l.getD i .undef) := by simp [List.getD, List.getElem?_eq_getElem hi]
  have hsz := hE _ (List.mem_of_getElem? hx)
  have hle : i * E + E ≤ l.length * E := by
    have : (i + 1) * E ≤ l.length * E := Nat.mul_le_mul_right _ hi
    rw [Nat.add_mul] at this
    omega
  refine .rop g (o + i * E) _ ((cs.drop (i * E)).take E) hs (by rw [List.length_take, List.length_drop, hsz, hl]; omega) (fun a ha => h1 a (List.mem_flatMap.2 ⟨_, List.mem_of_getElem? hx, ha⟩)) (fun j c hj => ?_) (fun j c a hj ha => ?_)
  · rw [List.getElem?_take] at hj
    split at hj
    · rw [List.getElem?_drop] at hj
      have := hc _ _ hj
      rwa [← Nat.add_assoc] at this
    · cases hj
  · rw [List.getElem?_take] at hj
    split at hj
    · rename_i hlt
      rw [List.getElem?_drop] at hj
      rw [← flat_get l hE i j _ hx hlt] at ha
      exact h _ _ _ hj ha
    · cases hj

theorem evIndexAddr_sound [Tabs] {P : Program} {T : Tab} (hT : TabOk P T) {g : Option Bool} {rd : Operand → AV} {H : Heap} {nx : Nat} {t : TypeId} {x i : Operand} {o : Oper} (ho : o.op = .indexAddr t x i) {k : Res → Prop}
    (h : evIndexAddr T g H nx t (rd x) (rd i) k) : ∃ r, (gOk g → OpSemP P o [(x, true, rd x), (i, true, rd i)] H nx r) ∧ (r.wr = [] ∧ r.nx = nx) ∧ k r := by
  unfold evIndexAddr at h
  split at h
  · rename_i e s b z hi
    obtain ⟨hu, _⟩ := hT t _ hi
    simp only at hu
    split at h
    · exact h.elim
    · rename_i ie hie
      obtain ⟨_, j, hj, hs, _⟩ := hT e _ hie
      split at h
      · rename_i kk n hn
        have fin : ∀ (a : Act) (w : World) (g' o' len cap : Nat), a.eval x = .slice (some ⟨g', o', none⟩) len cap → a.eval i = .int kk n → 0 ≤ n → n < len →
            (execOp a.eval o).run P w = .ok (.value (.pointer (some ⟨g', o' + n.toNat * ie.size, none⟩))) w := by
          intro a w g' o' len cap hx hi' h0 h1
          have := run_indexAt_sl (P := P) hu hj w g' o' len cap kk n h0 h1
          unfold execOp
          simp only [ho, hx, hi', Sem.run_bind, this, Result.andThen_ok, hs]
          rfl
        split at h
        · rename_i E l hp
          obtain ⟨hb, hE, hk⟩ := ob_iff.1 h
          subst hE
          refine ⟨_, fun hg => opsem_pure fun m S w a H₂ hG ht hus => ?_, ⟨rfl, rfl⟩, hk⟩
          have hx : RelV m S w (a.eval x) (rd x) := hus (x, true, rd x) (by simp) rfl
          have hi' : RelV m S w (a.eval i) (rd i) := hus (i, true, rd i) (by simp) rfl
          rw [hp] at hx
          rw [hn] at hi'
          obtain ⟨h0, h1⟩ := hb hg
          rcases relT_lsl (relV_lsl hx) with ⟨_, hnil⟩ | ⟨g', o', cap, cs, hv, hS, hcap, hE, hone, hl, hc, hr⟩
          · subst hnil; simp at h1; omega
          · exact ⟨_, fun w' _ => fin a w' g' o' _ cap hv (relV_int hi') h0 h1, .t _ _ (lsl_elem (cap := cap) hS hE hone hl hc hr (by omega))⟩
        · rename_i T' E enc d xs hp
          obtain ⟨hb, hE, hk⟩ := ob_iff.1 h
          subst hE
          refine ⟨_, fun hg => opsem_pure fun m S w a H₂ hG ht hus => ?_, ⟨rfl, rfl⟩, hk⟩
          have hx : RelV m S w (a.eval x) (rd x) := hus (x, true, rd x) (by simp) rfl
          have hi' : RelV m S w (a.eval i) (rd i) := hus (i, true, rd i) (by simp) rfl
          rw [hp] at hx
          rw [hn] at hi'
          obtain ⟨h0, h1⟩ := hb hg
          rcases relT_lsl (relV_sl hx) with ⟨_, hnil⟩ | ⟨g', o', cap, cs, hv, hS, hcap, hE, hone, hl, hc, hr⟩
          · have : xs.length = 0 := by simpa using congrArg List.length hnil
            omega
          · have h1' : n < ((xs.map enc).length : Nat) := by simpa using h1
            refine ⟨_, fun w' _ => fin a w' g' o' _ cap hv (relV_int hi') h0 h1', .t _ _ ?_⟩
            have := lsl_elem (cap := cap) hS hE hone hl hc hr (i := n.toNat) (by omega)
            have e1 : (xs.map enc).getD n.toNat .undef = enc (xs.getD n.toNat d) := by
              have : n.toNat < xs.length := by omega
              simp [List.getD, List.getElem?_eq_getElem this]
            rwa [e1] at this
        · rename_i id hp
          unfold slN at h
          simp only at h
          have main : ∀ (len : Nat), isRow (lkH H id) = true → (∀ (m : Ids) (S : Blocks) (w : World) (H₂ : Heap) (v : Value), Good m S w H₂ → (∀ id' ∈ [id], lkH H₂ id' = lkH H id') → RelV m S w v (.own id) → SliceN v len) →
              ob g (0 ≤ n ∧ n < len) (k ⟨.eptr id ie.size n.toNat 0, [id], [], nx⟩) → ∃ r, (gOk g → OpSemP P o [(x, true, rd x), (i, true, rd i)] H nx r) ∧ (r.wr = [] ∧ r.nx = nx) ∧ k r := by
            intro len hrow hlen hk
            obtain ⟨hb, hk⟩ := ob_iff.1 hk
            refine ⟨_, fun hg => opsem_pure fun m S w a H₂ hG ht hus => ?_, ⟨rfl, rfl⟩, hk⟩
            have hx : RelV m S w (a.eval x) (rd x) := hus (x, true, rd x) (by simp) rfl
            have hi' : RelV m S w (a.eval i) (rd i) := hus (i, true, rd i) (by simp) rfl
            rw [hn] at hi'
            rw [hp] at hx
            obtain ⟨h0, h1⟩ := hb hg
            have hsn := hlen m S w H₂ _ hG ht hx
            generalize hv : a.eval x = v at hx hsn
            cases hx with
            | t _ _ h => cases h
            | own id n' cap a' hm =>
              cases hsn
              rcases row_addr hG (by rw [ht id (by simp)]; exact hrow) hm with ⟨_, h2, _⟩ | ⟨g', rfl⟩
              · omega
              · exact ⟨_, fun w' _ => fin a w' g' 0 _ cap hv (relV_int hi') h0 h1, by rw [Nat.zero_add]; exact .eptr id ie.size n.toNat 0 g' _ cap hm⟩
          split at h
          · rename_i e' E l hid
            exact main l.length (by rw [hid]; rfl) (fun m S w H₂ v hG ht hr => by
              have hb := hG.rel id
              rw [ht id (by simp), hid] at hb
              obtain ⟨v', vs, hmi, hrow⟩ := hb
              cases hr with
              | t _ _ h => cases h
              | own id n cap a hm => rw [hmi] at hm; cases hm; exact hrow.n) h
          · rename_i T' e' E enc d xs hid
            exact main xs.length (by rw [hid]; rfl) (fun m S w H₂ v hG ht hr => by
              have hb := hG.rel id
              rw [ht id (by simp), hid] at hb
              obtain ⟨v', vs, hmi, hrow⟩ := hb
              cases hr with
              | t _ _ h => cases h
              | own id n cap a hm => rw [hmi] at hm; cases hm; simpa using hrow.n) h
          · exact h.elim
        · rename_i id len hp
          split at h
          · rename_i hrow
            obtain ⟨hb, hk⟩ := ob_iff.1 h
            refine ⟨_, fun hg => opsem_pure fun m S w a H₂ hG ht hus => ?_, ⟨rfl, rfl⟩, hk⟩
            have hx : RelV m S w (a.eval x) (rd x) := hus (x, true, rd x) (by simp) rfl
            have hi' : RelV m S w (a.eval i) (rd i) := hus (i, true, rd i) (by simp) rfl
            rw [hn] at hi'
            rw [hp] at hx
            obtain ⟨h0, h1⟩ := hb hg
            generalize hv : a.eval x = v at hx
            cases hx with
            | t _ _ h => cases h
            | pre id len n' cap a' hm hle =>
              rcases row_addr hG (by rw [ht id (by simp)]; exact hrow) hm with ⟨_, h2, _⟩ | ⟨g', rfl⟩
              · omega
              · exact ⟨_, fun w' _ => fin a w' g' 0 _ cap hv (relV_int hi') h0 h1, by rw [Nat.zero_add]; exact .eptr id ie.size n.toNat 0 g' _ cap hm⟩
          · exact h.elim
        · exact h.elim
      · exact h.elim
  · rename_i len e s b z hi
    obtain ⟨hu, _⟩ := hT t _ hi
    simp only at hu
    split at h
    · exact h.elim
    · rename_i ie hie
      obtain ⟨_, j, hj, hs, _⟩ := hT e _ hie
      split at h
      · rename_i kk n id off hn hp
        obtain ⟨hb, hk⟩ := ob_iff.1 h
        refine ⟨_, fun hg => opsem_pure fun m S w a H₂ hG ht hus => ?_, ⟨rfl, rfl⟩, hk⟩
        have hx : RelV m S w (a.eval x) (rd x) := hus (x, true, rd x) (by simp) rfl
        have hi' : RelV m S w (a.eval i) (rd i) := hus (i, true, rd i) (by simp) rfl
        rw [hn] at hi'
        rw [hp] at hx
        obtain ⟨h0, h1⟩ := hb hg
        have hiv := relV_int hi'
        generalize hv : a.eval x = v at hx
        cases hx with
        | t _ _ h => cases h
        | ptr id off g' hm =>
          refine ⟨_, ?_, .ptr id (off + n.toNat * ie.size) g' hm⟩
          intro w' _
          unfold execOp
          simp [ho, hv, hiv, Instr.indexAt, run_underlying hu, asIntOf, Instr.sureAddr, h0, h1, sizeOf, typeInfo, hj, hs, Addr.add_mid]
      · exact h.elim
  · exact h.elim

end Go.Own
