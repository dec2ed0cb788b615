/-
  The operations that look at memory and write to it, over abstract values: what each owes, what it gives; each is sound for the model's own operation.
-/
import Derived.Test.YtcabodhhdeecgaaOwnB
import Derived.Deep.MidRow
namespace Go.Own

/-- What is told of a type. -/
structure TI where
  desc : TypeDesc
  size : Nat
  bytes : Nat
  zero : Value
  deriving Inhabited

abbrev Tab := List (Nat × TI)

def lkT : Tab → Nat → Option TI
  | [], _ => none
  | (i, v) :: r, j => match Nat.beq i j with
    | true => some v
    | false => lkT r j

def TabOk (P : Program) (T : Tab) : Prop :=
  ∀ t i, lkT T t = some i → P.underlying t = some i.desc ∧ ∃ j, P.info? t = some j ∧ j.size = i.size ∧ j.bytes = i.bytes ∧ j.zero = some i.zero

/-- Under a guard that does not hold nothing is owed. -/
def gOk : Option Bool → Prop
  | none => True
  | some b => b = true

def ob (g : Option Bool) (p q : Prop) : Prop :=
  match g with
  | none => p ∧ q
  | some b => (b = true → p) ∧ q

theorem ob_iff {g : Option Bool} {p q : Prop} : ob g p q ↔ (gOk g → p) ∧ q := by
  cases g <;> simp [ob, gOk]

def isAggD : TypeDesc → Bool
  | .struct _ | .array _ _ => true
  | _ => false

theorem isAggD_row {d : TypeDesc} : isAggD d = d.isRow := by cases d <;> rfl

def dropL : Nat → List AV → List AV
  | 0, l => l
  | _ + 1, [] => []
  | n + 1, _ :: l => dropL n l

def takeL : Nat → List AV → List AV
  | 0, _ => []
  | _ + 1, [] => []
  | n + 1, a :: l => a :: takeL n l

theorem dropL_eq : ∀ (n : Nat) (l : List AV), dropL n l = l.drop n
  | 0, l => by simp [dropL]
  | _ + 1, [] => by simp [dropL]
  | n + 1, _ :: l => by simp [dropL, dropL_eq n l]

theorem takeL_eq : ∀ (n : Nat) (l : List AV), takeL n l = l.take n
  | 0, l => by simp [takeL]
  | _ + 1, [] => by simp [takeL]
  | n + 1, a :: l => by simp [takeL, takeL_eq n l]

/-- The cells 'l' from offset 'off' on are overwritten. -/
def putL : Nat → List AV → List AV → List AV
  | 0, x :: xs, _ :: l => x :: putL 0 xs l
  | 0, [], l => l
  | 0, _ :: _, [] => []
  | n + 1, xs, a :: l => a :: putL n xs l
  | _ + 1, _, [] => []

theorem putL_length : ∀ (n : Nat) (xs l : List AV), (putL n xs l).length = l.length
  | 0, [], l => by cases l <;> simp [putL]
  | 0, _ :: _, [] => by simp [putL]
  | 0, x :: xs, a :: l => by simp [putL, putL_length 0 xs l]
  | n + 1, xs, [] => by simp [putL]
  | n + 1, xs, a :: l => by simp [putL, putL_length n xs l]

theorem putL_get : ∀ (n : Nat) (xs l : List AV) (j : Nat), n + xs.length ≤ l.length →
    (putL n xs l)[j]? = if n ≤ j ∧ j < n + xs.length then xs[j - n]? else l[j]?
  | 0, [], l, j, _ => by
    have : putL 0 [] l = l := by cases l <;> simp [putL]
    rw [this, if_neg (by simp)]
  | 0, _ :: _, [], j, h => by simp at h
  | 0, x :: xs, a :: l, 0, h => by simp [putL]
  | 0, x :: xs, a :: l, j + 1, h => by
    have := putL_get 0 xs l j (by simp at h ⊢; omega)
    simp only [putL, List.getElem?_cons_succ, this]
    simp only [List.length_cons, Nat.zero_add, Nat.zero_le, true_and, Nat.sub_zero, List.getElem?_cons_succ]
    by_cases hj : j < xs.length
    · rw [if_pos hj, if_pos (by omega)]
    · rw [if_neg hj, if_neg (by omega)]
  | n + 1, xs, [], j, h => by simp at h
  | n + 1, xs, a :: l, 0, h => by simp [putL]
  | n + 1, xs, a :: l, j + 1, h => by
    have := putL_get n xs l j (by simp at h ⊢; omega)
    simp only [putL, List.getElem?_cons_succ, this]
    by_cases hj : n ≤ j ∧ j < n + xs.length
    · rw [if_pos hj, if_pos (by omega)]; congr 1; omega
    · rw [if_neg hj, if_neg (by omega)]

/-- What lies at a pointer: its cells from there on, and the object that was looked at. -/
def ptView (g : Option Bool) (H : Heap) (p : AV) (k : List AV → List Nat → Prop) : Prop :=
  match p with
  | .rop l => k l []
  | .ptr id off => match lkH H id with
    | .cells _ l => k (dropL off l) [id]
    | _ => False
  | .eptr id E i off => match lkH H id with
    | .row _ E' enc d xs => ob g (i < xs.length) (E = E' ∧ k (dropL off (enc (xs.getD i d)).cells) [id])
    | .lst _ E' l => ob g (i < l.length) (E = E' ∧ k (dropL off (l.getD i .undef).cells) [id])
    | _ => False
  | .qptr id E i => match lkH H id with
    | .que _ E' enc d xs => ob g (i < xs.length) (E = E' ∧ k (enc (xs.getD i d)).cells [id])
    | _ => False
  | _ => False

/-- The cells lie at the value. -/
def Lies (m : Ids) (S : Blocks) (w : World) (v : Value) (l : List AV) : Prop :=
  ∃ (g o : Nat) (cs : List Value), v = .pointer (some ⟨g, o, none⟩) ∧ cs.length = l.length ∧ (∀ (j : Nat) (c : Value), cs[j]? = some c → w.cell? ⟨g, o + j, none⟩ = some c) ∧
    (∀ (j : Nat) (c : Value) (a : AV), cs[j]? = some c → l[j]? = some a → RelV m S w c a)

theorem Lies.drop {m : Ids} {S : Blocks} {w : World} {g o : Nat} {l : List AV} (n : Nat) (h : Lies m S w (.pointer (some ⟨g, o, none⟩)) l) :
    Lies m S w (.pointer (some ⟨g, o + n, none⟩)) (dropL n l) := by
  obtain ⟨g', o', cs, hv, hl, hc, hr⟩ := h
  cases hv
  refine ⟨g, o + n, cs.drop n, rfl, by simp [dropL_eq, hl], fun j c hj => ?_, fun j c a hj ha => ?_⟩
  · rw [List.getElem?_drop] at hj
    have := hc _ _ hj
    rw [← Nat.add_assoc] at this
    exact this
  · rw [dropL_eq, List.getElem?_drop] at ha
    rw [List.getElem?_drop] at hj
    exact hr _ _ _ hj ha

theorem flat_get {E : Nat} : ∀ (l : List AV), (∀ x ∈ l, x.cells.length = E) → ∀ (i j : Nat) (x : AV), l[i]? = some x → j < E → (flat l)[i * E + j]? = x.cells[j]?
  | [], _, i, j, x, h, _ => by simp at h
  | y :: l, hE, 0, j, x, h, hj => by
    simp at h
    subst h
    have h0 : y.cells.length = E := hE y (by simp)
    simp [flat, List.getElem?_append, h0, hj]
  | y :: l, hE, i + 1, j, x, h, hj => by
    have h0 : y.cells.length = E := hE y (by simp)
    have ih := flat_get l (fun x hx => hE x (by simp [hx])) i j x (by simpa using h) hj
    have : flat (y :: l) = y.cells ++ flat l := by simp [flat]
    rw [this, List.getElem?_append_right (by rw [h0, Nat.add_mul]; omega), h0]
    have e : (i + 1) * E + j - E = i * E + j := by rw [Nat.add_mul]; omega
    rw [e]
    exact ih

theorem flat_length {E : Nat} : ∀ (l : List AV), (∀ x ∈ l, x.cells.length = E) → (flat l).length = l.length * E
  | [], _ => by simp [flat]
  | y :: l, hE => by
    have h0 : y.cells.length = E := hE y (by simp)
    have ih := flat_length l (fun x hx => hE x (by simp [hx]))
    have : flat (y :: l) = y.cells ++ flat l := by simp [flat]
    rw [this, List.length_append, ih, h0, List.length_cons, Nat.add_mul]
    omega

/-- An element of a row of the call's own lies at its place. -/
theorem RowRel.lies {m : Ids} {S : Blocks} {w : World} {e E : Nat} {l : List AV} {v : Value} {vs : List Value} (h : RowRel S w e E l v vs) {g n cap : Nat} (hv : v = .slice (some ⟨g, 0, none⟩) n cap) {i : Nat} (hi : i < l.length) :
    Lies m S w (.pointer (some ⟨g, i * E, none⟩)) (l.getD i .undef).cells := by
  subst hv
  have hx : l[i]? = some (l.getD i .undef) := by simp [List.getD, List.getElem?_eq_getElem hi]
  have hsz := h.size _ (List.mem_of_getElem? hx)
  have hlen := h.owns.1
  have hcells := h.owns.cells (g := g) rfl
  have hle : i * E + E ≤ l.length * E := by
    have : (i + 1) * E ≤ l.length * E := Nat.mul_le_mul_right _ hi
    rw [Nat.add_mul] at this
    omega
  refine ⟨g, i * E, (vs.drop (i * E)).take E, rfl, by rw [List.length_take, List.length_drop, hsz, hlen]; omega, fun j c hj => ?_, fun j c a hj ha => ?_⟩
  · rw [List.getElem?_take] at hj
    split at hj
    · rw [List.getElem?_drop] at hj
      have := hcells _ _ hj
      rwa [Addr.add_mid, Nat.zero_add] at this
    · cases hj
  · rw [List.getElem?_take] at hj
    split at hj
    · rename_i hlt
      rw [List.getElem?_drop] at hj
      rw [← flat_get l h.size i j _ hx hlt] at ha
      exact .t _ _ (h.rel _ _ _ hj ha)
    · cases hj

/-- An element of a queue lies at its place. -/
theorem QueRel.lies {m : Ids} {S : Blocks} {w : World} {e E : Nat} {l : List AV} {g o cap : Nat} {cur : Array Value} (h : QueRel S w e E l g o cap cur) {i : Nat} (hi : i < l.length) :
    Lies m S w (.pointer (some ⟨g, o + i * E, none⟩)) (l.getD i .undef).cells := by
  have hx : l[i]? = some (l.getD i .undef) := by simp [List.getD, List.getElem?_eq_getElem hi]
  have hsz := h.size _ (List.mem_of_getElem? hx)
  have hle : i * E + E ≤ cap * E := by
    have : (i + 1) * E ≤ cap * E := Nat.mul_le_mul_right _ (Nat.le_trans hi h.len)
    rw [Nat.add_mul] at this
    omega
  have hroom := h.room
  refine ⟨g, o + i * E, (cur.toList.drop (o + i * E)).take E, rfl, by rw [List.length_take, List.length_drop, hsz, Array.length_toList]; omega, fun j c hj => ?_, fun j c a hj ha => ?_⟩
  · rw [List.getElem?_take] at hj
    split at hj
    · rw [List.getElem?_drop] at hj
      rw [cell_of_row w g (o + i * E + j) cur e (0, 0) h.at_]
      simpa using hj
    · cases hj
  · rw [List.getElem?_take] at hj
    split at hj
    · rename_i hlt
      rw [List.getElem?_drop] at hj
      rw [← flat_get l h.size i j _ hx hlt] at ha
      refine .t _ _ (h.rel (i * E + j) c a ?_ ha)
      rw [← Nat.add_assoc]
      simpa using hj
    · cases hj

theorem ptView_sound [Tabs] {g : Option Bool} {H : Heap} {p : AV} {k : List AV → List Nat → Prop} (h : ptView g H p k) :
    ∃ l touch, (gOk g → ∀ (m : Ids) (S : Blocks) (w : World) (H₂ : Heap) (v : Value), Good m S w H₂ → (∀ id ∈ touch, lkH H₂ id = lkH H id) → RelV m S w v p → Lies m S w v l) ∧ k l touch := by
  unfold ptView at h
  split at h
  · rename_i l
    refine ⟨l, [], fun _ m S w H₂ v hG _ hr => ?_, h⟩
    cases hr with
    | t _ _ h => cases h with
      | rop g o l cs hs hl h1 hc h => exact ⟨g, o, cs, rfl, hl, hc, fun j c a hj ha => .t _ _ (h j c a hj ha)⟩
  · rename_i id off
    split at h
    · rename_i e l hid
      refine ⟨_, _, fun _ m S w H₂ v hG ht hr => ?_, h⟩
      have hid2 := ht id (by simp)
      have hb := hG.rel id
      rw [hid2, hid] at hb
      obtain ⟨g, cs, hmi, hg, hl, h1, hrel⟩ := hb
      cases hr with
      | t _ _ h => cases h
      | ptr id off g' hm =>
        rw [hmi] at hm
        cases hm
        have : Lies m S w (.pointer (some ⟨g, 0, none⟩)) l :=
          ⟨g, 0, cs.toList, rfl, by simpa using hl, fun j c hj => by rw [cell_of_row w g (0 + j) cs e (0, 0) hg, Nat.zero_add]; simpa using hj, fun j c a hj ha => hrel j c a (by simpa using hj) ha⟩
        have := this.drop off
        rwa [Nat.zero_add] at this
    · exact h.elim
  · rename_i id E i off
    split at h
    · rename_i e E' T enc d xs hid
      obtain ⟨hi, hE, hk⟩ := ob_iff.1 h
      subst hE
      refine ⟨_, _, fun hg m S w H₂ v hG ht hr => ?_, hk⟩
      have hid2 := ht id (by simp)
      have hb := hG.rel id
      rw [hid2, hid] at hb
      obtain ⟨v', vs, hmi, hrow⟩ := hb
      cases hr with
      | t _ _ h => cases h
      | eptr id E i off g' n cap hm =>
        rw [hmi] at hm
        cases hm
        have h1 := (hrow.lies (m := m) rfl (i := i) (by simpa using hi hg)).drop off
        have e1 : (xs.map enc).getD i .undef = enc (xs.getD i d) := by
          have := hi hg
          simp [List.getD, List.getElem?_eq_getElem this]
        rwa [e1] at h1
    · rename_i e E' l hid
      obtain ⟨hi, hE, hk⟩ := ob_iff.1 h
      subst hE
      refine ⟨_, _, fun hg m S w H₂ v hG ht hr => ?_, hk⟩
      have hid2 := ht id (by simp)
      have hb := hG.rel id
      rw [hid2, hid] at hb
      obtain ⟨v', vs, hmi, hrow⟩ := hb
      cases hr with
      | t _ _ h => cases h
      | eptr id E i off g' n cap hm =>
        rw [hmi] at hm
        cases hm
        exact (hrow.lies (m := m) rfl (i := i) (hi hg)).drop off
    · exact h.elim
  · rename_i id E i
    split at h
    · rename_i e E' T enc d xs hid
      obtain ⟨hi, hE, hk⟩ := ob_iff.1 h
      subst hE
      refine ⟨_, _, fun hg m S w H₂ v hG ht hr => ?_, hk⟩
      have hid2 := ht id (by simp)
      have hb := hG.rel id
      rw [hid2, hid] at hb
      obtain ⟨g', o', cap', cur, hmi, hq⟩ := hb
      cases hr with
      | t _ _ h => cases h
      | qptr id E i g'' o'' n cap hm =>
        rw [hmi] at hm
        cases hm
        have e1 : (xs.map enc).getD i .undef = enc (xs.getD i d) := by
          have := hi hg
          simp [List.getD, List.getElem?_eq_getElem this]
        rw [← e1]
        exact hq.lies (by simpa using hi hg)
    · exact h.elim
  · exact h.elim

/-- An array of integers, by a pointer into it. -/
structure ArrAt where
  id : Nat
  off : Nat
  e : TypeId
  k : IntKind
  n : Nat
  f : Nat → Int

def arrOf (H : Heap) (p : AV) : Option ArrAt :=
  match p with
  | .ptr id off => match lkH H id with
    | .arr e k n f => some ⟨id, off, e, k, n, f⟩
    | _ => none
  | _ => none

theorem arrOf_some {H : Heap} {p : AV} {a : ArrAt} (h : arrOf H p = some a) : p = .ptr a.id a.off ∧ lkH H a.id = .arr a.e a.k a.n a.f := by
  unfold arrOf at h
  split at h
  · split at h
    · rename_i hid
      cases h
      exact ⟨rfl, hid⟩
    · cases h
  · cases h

/-- A load. -/
def evLoad (T : Tab) (g : Option Bool) (H : Heap) (nx : Nat) (t : TypeId) (p : AV) (k : Res → Prop) : Prop :=
  match lkT T t with
  | none => False
  | some i => match arrOf H p with
  | some ⟨id, off, _, k', n, f⟩ => match isAggD i.desc with
    | true => match Nat.beq off 0 && Nat.beq i.size n with
      | true => k ⟨.iarr k' n f, [id], [], nx⟩
      | false => False
    | false => ob g (off < n) (k ⟨.int k' (f off), [id], [], nx⟩)
  | none => ptView g H p fun l touch =>
    match isAggD i.desc with
    | true => match Nat.beq (takeL i.size l).length i.size with
      | true => k ⟨.agg (takeL i.size l), touch, [], nx⟩
      | false => False
    | false => match l with
      | a :: _ => k ⟨a, touch, [], nx⟩
      | [] => False

theorem run_loadVar_one {P : Program} (w : World) (b o : Nat) (ty : TypeId) (c : Value) (d : TypeDesc) (hc : w.cell? ⟨b, o, none⟩ = some c) (hu : P.underlying ty = some d) (hd : d.isRow = false) :
    (loadVar ty ⟨b, o, none⟩).run P w = .ok c w := by
  have hagg : (isAgg ty).run P w = .ok false w := by
    unfold isAgg
    rw [Sem.run_bind, run_underlying hu w]
    cases d <;> simp_all
  simp [loadVar, Sem.run_bind, hagg, hc]

theorem evLoad_sound [Tabs] {P : Program} {T : Tab} (hT : TabOk P T) {g : Option Bool} {rd : Operand → AV} {H : Heap} {nx : Nat} {t : TypeId} {x : Operand} {o : Oper} (ho : o.op = .load t x) {k : Res → Prop}
    (h : evLoad T g H nx t (rd x) k) : ∃ r, (gOk g → OpSemP P o [(x, true, rd x)] H nx r) ∧ (r.wr = [] ∧ r.nx = nx) ∧ k r := by
  unfold evLoad at h
  split at h
  · exact h.elim
  · rename_i i hi
    obtain ⟨hu, j, hj, hs, _, _⟩ := hT t i hi
    split at h
    · rename_i id off e k' n f harr
      obtain ⟨hp, hid⟩ := arrOf_some harr
      simp only at hp hid
      have open1 : ∀ {m : Ids} {S : Blocks} {w : World} {H₂ : Heap} {v : Value}, Good m S w H₂ → lkH H₂ id = lkH H id → RelV m S w v (rd x) →
          ∃ (g' : Nat) (cs : Array Value), v = .pointer (some ⟨g', off, none⟩) ∧ w.heap[g']? = some (.cells cs e (0, 0)) ∧ cs.size = n ∧ ∀ (j : Nat) (c : Value), cs[j]? = some c → c = .int k' (f j) := by
        intro m S w H₂ v hG ht hr
        have hb := hG.rel id
        rw [ht, hid] at hb
        obtain ⟨g', cs, hmi, hg, hl, hrel⟩ := hb
        rw [hp] at hr
        cases hr with
        | t _ _ h => cases h
        | ptr _ _ g2 hm =>
          rw [hmi] at hm
          cases hm
          exact ⟨g', cs, rfl, hg, hl, hrel⟩
      split at h
      · rename_i hag
        split at h
        · rename_i hc
          simp only [Bool.and_eq_true] at hc
          have hoff : off = 0 := Nat.eq_of_beq_eq_true hc.1
          have hsz : i.size = n := Nat.eq_of_beq_eq_true hc.2
          subst hoff
          refine ⟨_, fun hg => opsem_pure fun m S w a H₂ hG ht hu' => ?_, ⟨rfl, rfl⟩, h⟩
          have hr := hu' _ (List.mem_singleton.2 rfl) rfl
          obtain ⟨g', cs, hv, hg', hl, hrel⟩ := open1 hG (ht id (by simp)) hr
          refine ⟨.agg cs, ?_, .t _ _ (.iarr _ _ _ cs hl hrel)⟩
          intro w' hw'
          unfold execOp
          have := run_loadVar_mid (P := P) w' g' 0 t cs.toList i.desc (fun j v hj => by
            refine hw'.cell ?_
            rw [cell_of_row w g' (0 + j) cs e (0, 0) hg', Nat.zero_add]
            simpa using hj) hu (by rw [← isAggD_row]; exact hag) (by rw [hj]; simp [hs, hl, hsz])
          simp only [ho, hv, Instr.loadAt, Instr.sureAddr, Sem.run_bind, Sem.run_pure, Result.andThen_ok, this]
        · exact h.elim
      · rename_i hag
        obtain ⟨hob, h⟩ := ob_iff.1 h
        refine ⟨_, fun hg => opsem_pure fun m S w a H₂ hG ht hu' => ?_, ⟨rfl, rfl⟩, h⟩
        have hr := hu' _ (List.mem_singleton.2 rfl) rfl
        obtain ⟨g', cs, hv, hg', hl, hrel⟩ := open1 hG (ht id (by simp)) hr
        have hlt : off < cs.size := by rw [hl]; exact hob hg
        have hc : cs[off]? = some (cs[off]) := Array.getElem?_eq_getElem hlt
        refine ⟨.int k' (f off), ?_, .t _ _ (.int _ _)⟩
        intro w' hw'
        unfold execOp
        have := run_loadVar_one (P := P) w' g' off t (.int k' (f off)) i.desc (by
          refine hw'.cell ?_
          rw [cell_of_row w g' off cs e (0, 0) hg', hc, hrel off _ hc]) hu (by rw [← isAggD_row]; exact hag)
        simp only [ho, hv, Instr.loadAt, Instr.sureAddr, Sem.run_bind, Sem.run_pure, Result.andThen_ok, this]
    obtain ⟨l, touch, hl, hk⟩ := ptView_sound h
    split at hk
    · rename_i hag
      split at hk
      · rename_i hlen
        refine ⟨_, fun hg => opsem_pure fun m S w a H₂ hG ht hu' => ?_, ⟨rfl, rfl⟩, hk⟩
        have hr := hu' _ (List.mem_singleton.2 rfl) rfl
        obtain ⟨g', o', cs, hv, hcl, hc, hrel⟩ := hl hg m S w H₂ _ hG ht hr
        have hsz : (takeL i.size l).length = i.size := Nat.eq_of_beq_eq_true hlen
        rw [takeL_eq] at hsz
        have hle : i.size ≤ l.length := by rw [List.length_take] at hsz; omega
        refine ⟨.agg (cs.take i.size).toArray, ?_, ?_⟩
        · intro w' hw'
          unfold execOp
          have := run_loadVar_mid (P := P) w' g' o' t (cs.take i.size) i.desc (fun j v hj => by
            rw [List.getElem?_take] at hj
            split at hj
            · exact hw'.cell (hc j v hj)
            · cases hj) hu (by rw [← isAggD_row]; exact hag) (by rw [hj]; simp [hs, List.length_take]; omega)
          simp only [ho, hv, Instr.loadAt, Instr.sureAddr, Sem.run_bind, Sem.run_pure, Result.andThen_ok, this]
        · refine .agg _ _ (by simp [takeL_eq, List.length_take]; omega) (fun j c a hj ha => ?_)
          rw [takeL_eq, List.getElem?_take] at ha
          split at ha
          · rename_i hlt
            simp [hlt] at hj
            exact hrel j c a hj ha
          · cases ha
      · exact hk.elim
    · rename_i hag
      split at hk
      · rename_i a rest
        refine ⟨_, fun hg => opsem_pure fun m S w a H₂ hG ht hu' => ?_, ⟨rfl, rfl⟩, hk⟩
        have hr := hu' _ (List.mem_singleton.2 rfl) rfl
        obtain ⟨g', o', cs, hv, hcl, hc, hrel⟩ := hl hg m S w H₂ _ hG ht hr
        cases cs with
        | nil => simp at hcl
        | cons c cs =>
          refine ⟨c, ?_, hrel 0 c _ rfl rfl⟩
          intro w' hw'
          unfold execOp
          have := run_loadVar_one (P := P) w' g' o' t c i.desc (by have := hw'.cell (hc 0 c rfl); simpa using this) hu (by rw [← isAggD_row]; exact hag)
          simp only [ho, hv, Instr.loadAt, Instr.sureAddr, Sem.run_bind, Sem.run_pure, Result.andThen_ok, this]
      · exact hk.elim

end Go.Own
