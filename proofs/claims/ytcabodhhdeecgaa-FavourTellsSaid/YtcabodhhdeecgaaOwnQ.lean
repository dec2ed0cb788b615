/-
  One operation after the other: what a region's operations make of abstract values.
-/
import Derived.Test.YtcabodhhdeecgaaOwnP4
namespace Go.Own

structure St : Type 1 where
  env : Env
  heap : Heap
  nx : Nat

/-- A guard: the slot of its bool, the side that is taken, whether it is. -/
structure Lay where
  tmp : Nat
  pol : Bool
  g : Bool

abbrev Loc := List (Nat × Nat × AV)

/-- A slot: the depth of the guards under which it was written, and its value. -/
def look : Loc → Env → Nat → Nat × AV
  | [], env, s => (0, lk env s)
  | (i, d, v) :: r, env, s => match Nat.beq i s with
    | true => (d, v)
    | false => look r env s

/-- What was written under deeper guards is not to be read any more. -/
def kill (d : Nat) : Loc → Loc
  | [] => []
  | (i, e, v) :: r => match Nat.ble e d with
    | true => (i, e, v) :: kill d r
    | false => (i, 0, .undef) :: kill d r

def topG : List Lay → Option Bool
  | [] => none
  | ⟨_, _, g⟩ :: _ => some g

/-! ### Forcing: a value, a list, written out before what follows looks at it -/

def forceAV (v : AV) (k : AV → Prop) : Prop :=
  match v with
  | .undef => k .undef
  | .bool b => k (.bool b)
  | .int i n => k (.int i n)
  | .str l => k (.str l)
  | .agg l => k (.agg l)
  | .tup l => k (.tup l)
  | .nilp => k .nilp
  | .rop l => k (.rop l)
  | .nils => k .nils
  | .lsl E l => k (.lsl E l)
  | .sl E enc d xs => k (.sl E enc d xs)
  | .nilm => k .nilm
  | .rsmap ev dv es => k (.rsmap ev dv es)
  | .rimap i ev dv es => k (.rimap i ev dv es)
  | .nilf => k .nilf
  | .fn f a b => k (.fn f a b)
  | .ptr id off => k (.ptr id off)
  | .eptr id E i off => k (.eptr id E i off)
  | .own id => k (.own id)
  | .pre id n => k (.pre id n)
  | .part id E off n => k (.part id E off n)
  | .map id => k (.map id)
  | .skip => k .skip
  | .iarr q n f => k (.iarr q n f)
  | .qptr id E i => k (.qptr id E i)
  | .any1 => k .any1

theorem forceAV_iff {v : AV} {k : AV → Prop} : forceAV v k ↔ k v := by cases v <;> rfl

def forceL : List AV → (List AV → Prop) → Prop
  | [], k => k []
  | a :: l, k => forceAV a fun a => forceL l fun l => k (a :: l)

theorem forceL_iff : ∀ {l : List AV} {k : List AV → Prop}, forceL l k ↔ k l
  | [], k => Iff.rfl
  | a :: l, k => by simp only [forceL, forceAV_iff, forceL_iff]

def forceAB (b : AB) (k : AB → Prop) : Prop :=
  match b with
  | .dead => k .dead
  | .cells e l => forceL l fun l => k (.cells e l)
  | .lst e E l => k (.lst e E l)
  | .row e E enc d xs => k (.row e E enc d xs)
  | .smap ev dv es => k (.smap ev dv es)
  | .imap i ev dv es => k (.imap i ev dv es)
  | .arr e q n f => k (.arr e q n f)
  | .que e E enc d xs => k (.que e E enc d xs)

theorem forceAB_iff {b : AB} {k : AB → Prop} : forceAB b k ↔ k b := by cases b <;> simp [forceAB, forceL_iff]

def forceLoc : Loc → (Loc → Prop) → Prop
  | [], k => k []
  | (i, d, v) :: l, k => forceLoc l fun l => k ((i, d, v) :: l)

theorem forceLoc_iff : ∀ {l : Loc} {k : Loc → Prop}, forceLoc l k ↔ k l
  | [], k => Iff.rfl
  | (i, d, v) :: l, k => by simp only [forceLoc, forceLoc_iff]

def forceStk : List Lay → (List Lay → Prop) → Prop
  | [], k => k []
  | ⟨t, p, g⟩ :: l, k => forceStk l fun l => k (⟨t, p, g⟩ :: l)

theorem forceStk_iff : ∀ {l : List Lay} {k : List Lay → Prop}, forceStk l k ↔ k l
  | [], k => Iff.rfl
  | ⟨t, p, g⟩ :: l, k => by simp only [forceStk, forceStk_iff]

def lenK : List Lay → Nat → (Nat → Prop) → Prop
  | [], n, k => k n
  | _ :: l, n, k => lenK l (n + 1) k

theorem lenK_iff : ∀ {l : List Lay} {n : Nat} {k : Nat → Prop}, lenK l n k ↔ k (n + l.length)
  | [], n, k => Iff.rfl
  | _ :: l, n, k => by rw [lenK, lenK_iff, List.length_cons]; rw [show n + 1 + l.length = n + (l.length + 1) by omega]

def pushK : List (Nat × AB) → Heap → (Heap → Prop) → Prop
  | [], H, k => k H
  | (i, b) :: r, H, k => forceAB b fun b => pushK r H fun H => k ((i, b) :: H)

theorem pushK_iff : ∀ {wr : List (Nat × AB)} {H : Heap} {k : Heap → Prop}, pushK wr H k ↔ k (wr ++ H)
  | [], H, k => Iff.rfl
  | (i, b) :: r, H, k => by simp only [pushK, forceAB_iff, pushK_iff]; rfl

/-- The stack of guards from the one at depth d downwards. -/
def popTo (d : Nat) : List Lay → List Lay
  | [] => []
  | l :: r => match Nat.ble (r.length + 1) d with
    | true => l :: r
    | false => popTo d r

def boolEq : Bool → Bool → Bool
  | true, true => true
  | false, false => true
  | _, _ => false

def findLay (t : Nat) (pol : Bool) : List Lay → Option (List Lay)
  | [] => none
  | l :: r => match Nat.beq l.tmp t && boolEq l.pol pol with
    | true => some (l :: r)
    | false => findLay t pol r

def polB : Bool → Bool → Bool
  | true, b => b
  | false, b => !b

def andG : List Lay → Bool → Bool
  | [], b => b
  | ⟨_, _, g⟩ :: _, b => g && b

/-- The guards under which an operation stands; what stood under others goes. -/
def enter (all : List Oper) (gd : Option (Nat × Bool)) (loc : Loc) (env : Env) (stk : List Lay) (k : List Lay → Loc → Prop) : Prop :=
  match gd with
  | none => match stk with
    | [] => k [] loc
    | _ :: _ => forceLoc (kill 0 loc) fun loc => k [] loc
  | some (j, pol) => match all[j]? with
    | none => False
    | some oj => match oj.dst with
      | none => False
      | some t => match findLay t pol stk with
        | some s => match Nat.beq s.length stk.length with
          | true => k s loc
          | false => forceLoc (kill s.length loc) fun loc => k s loc
        | none => match look loc env t with
          | (d, .bool b) => forceStk (popTo d stk) fun p => match Nat.beq p.length stk.length with
            | true => k (⟨t, pol, andG p (polB pol b)⟩ :: p) loc
            | false => forceLoc (kill p.length loc) fun loc => k (⟨t, pol, andG p (polB pol b)⟩ :: p) loc
          | _ => False

structure Cx where
  P : Program
  T : Tab
  N : Nat
  keep : List Nat
  pn : Nat
  /-- Sums and differences may wrap. -/
  wr : Bool

def rdOp (loc : Loc) (env : Env) : Operand → AV
  | .tmp s => (look loc env s).2
  | .const v => avOf v
  | .global _ => .undef
  | .func f => .fn (.func f) [] []

/-- The call of a function. -/
inductive CallG [Tabs] (P : Program) (f : FuncId) (avs : List AV) (H : Heap) (nx : Nat) (g : Option Bool) (det : Bool) (k : Res → Prop) : Prop
  | any (args' : List AV) (touch : List Nat) (R : List AR → Prop) (hd : g = none ∧ det = false) (hc : APure P f args' R) (hb : BorL (Lend H) avs args' touch) (hflat : touch = [] ∨ ∀ rs, R rs → ∀ r ∈ rs, r.flat)
      (hk : ∀ rs, R rs → takeR rs nx [] [] fun vs wr n => k ⟨valR vs, touch, wr, n⟩)
  | one (args' : List AV) (touch : List Nat) (rs : List AR) (hc : gOk g → APure P f args' (fun r => r = rs)) (hb : BorL (Lend H) avs args' touch) (hflat : touch = [] ∨ ∀ r ∈ rs, r.flat)
      (hg : g = none ∨ tw rs nx = []) (hk : takeR rs nx [] [] fun vs wr n => k ⟨valR vs, touch, wr, n⟩)
  | raw (touch : List Nat) (Rr : Res → Prop) (hd : g = none) (hdet : det = true → ∃ r, (∀ r', Rr r' ↔ r' = r) ∧ r.touch = touch) (hc : CallSem P f avs H nx touch Rr) (hk : ∀ r, Rr r → nx ≤ r.nx ∧ k r)

def un (g : Option Bool) (p : Prop) : Prop :=
  match g with
  | none => p
  | some _ => False

def evCall [Tabs] (C : Cx) (det : Bool) (g : Option Bool) (rd : Operand → AV) (H : Heap) (nx : Nat) (c : Call) (k : Res → Prop) : Prop :=
  match c.callee with
  | .builtin .len => match c.args.toList, c.argTypes.toList with
    | [x], [t] => match queOf H (rd x) with
      | some id => evLenQ C.T H nx t id k
      | none => evLen C.T H nx t (rd x) k
    | _, _ => False
  | .builtin .append => match c.args.toList, c.argTypes.toList with
    | [s, x], [t, t'] => match Nat.beq t t' with
      | true => un g (match queOf H (rd s) with
        | some id => evAppendQ C.T H nx t id (rd x) k
        | none => evAppend C.T H nx t (rd s) (rd x) k)
      | false => False
    | _, _ => False
  | .builtin .min => match c.args.toList with
    | [x, y] => evMin false (rd x) (rd y) fun v => k ⟨v, [], [], nx⟩
    | _ => False
  | .builtin .max => match c.args.toList with
    | [x, y] => evMin true (rd x) (rd y) fun v => k ⟨v, [], [], nx⟩
    | _ => False
  | .value fop => match rd fop with
    | .fn (.func f) first cap => forceL (first ++ c.args.toList.map rd ++ cap) fun avs => CallG C.P f avs H nx g det k
    | _ => False
  | _ => False

def evBinO (C : Cx) (det : Bool) (g : Option Bool) (op : BinOp) (t : TypeId) (x y : AV) (c : AV → Prop) : Prop :=
  match y with
  | .nils => match det with
    | true => evNilG C.T op t x c
    | false => match g with
      | some _ => evNilG C.T op t x c
      | none => match lkT C.T t with
        | some ⟨.slice _, _, _, _⟩ => match op with
          | .eql => evNilS false x c
          | .neq => evNilS true x c
          | _ => False
        | _ => False
  | _ => match C.wr with
    | false => evBin2 C.P C.T g op t x y c
    | true => evBinW C.P C.T g op t x y c

/-- An operation. -/
def evOp [Tabs] (C : Cx) (det : Bool) (g : Option Bool) (rd : Operand → AV) (H : Heap) (nx : Nat) (o : Oper) (k : Res → Prop) : Prop :=
  match o.op with
  | .move x => k ⟨rd x, [], [], nx⟩
  | .assign x => k ⟨rd x, [], [], nx⟩
  | .alloc t => un g (evAlloc C.T nx t k)
  | .box t x => un g (evBox nx t (rd x) k)
  | .build t parts => evBuild C.T nx t (parts.toList.map fun p => (p.1, rd p.2)) k
  | .buildSlice t n parts => un g (evBuildSliceF C.T H nx t n (parts.toList.map fun p => (p.1, rd p.2)) k)
  | .load t x => evLoad C.T g H nx t (rd x) k
  | .store t x y => un g (evStoreF C.T H nx t (rd x) (rd y) k)
  | .nilCheck x => evNilCheck (rd x) fun v => k ⟨v, [], [], nx⟩
  | .binOp op t x y _ => evBinO C det g op t (rd x) (rd y) fun v => k ⟨v, [], [], nx⟩
  | .lookup t x y ok => evLookup C.T H nx t (rd x) (rd y) ok k
  | .mapUpdate t x y z => un g (evMapUpdate C.T H nx t (rd x) (rd y) (rd z) k)
  | .makeMap _ none => un g (evMakeMap nx k)
  | .makeSlice t x y => un g (evMakeSlice C.T nx t (rd x) (rd y) k)
  | .unOp op _ x => evUn g op (rd x) fun v => k ⟨v, [], [], nx⟩
  | .convert s d x => evConvert C.T g s d (rd x) fun v => k ⟨v, [], [], nx⟩
  | .makeFunc fn first cap => k ⟨.fn fn (first.toList.map rd) (cap.toList.map rd), [], [], nx⟩
  | .slice t x lo hi none => match queOf H (rd x) with
    | some id => un g (evSliceQ C.T H nx t id (lo.map rd) (hi.map rd) k)
    | none => evSlice C.T g H nx t (rd x) (lo.map rd) (hi.map rd) k
  | .fieldAddr t x f => evFieldAddr C.T nx t (rd x) f k
  | .field t x f => evField C.T nx t (rd x) f k
  | .indexAddr t x i => match queOf H (rd x) with
    | some id => evIndexAddrQ C.T g H nx t id (rd i) k
    | none => evIndexAddr C.T g H nx t (rd x) (rd i) k
  | .index t x i => evIndex C.T g t (rd x) (rd i) fun v => k ⟨v, [], [], nx⟩
  | .extract x n => evExtract nx (rd x) n k
  | .call c => evCall C det g rd H nx c k
  | _ => False

/-- The operands that an operation looks at. -/
def usesOf (rd : Operand → AV) (o : Oper) : Uses := o.op.operands.toList.map fun y => (y, true, rd y)

theorem opsem_uses [Tabs] {P : Program} {o : Oper} {us us' : Uses} {H : Heap} {nx : Nat} {touch : List Nat} {Rr : Res → Prop} (h : OpSemR P o us H nx touch Rr) (hu : ∀ u ∈ us, u ∈ us') : OpSemR P o us' H nx touch Rr :=
  fun m S w a H₂ K Q hG ht hf hus hK => h m S w a H₂ K Q hG ht hf (fun u hm => hus u (hu u hm)) hK

theorem un_iff {g : Option Bool} {p : Prop} : un g p ↔ g = none ∧ p := by cases g <;> simp [un]

/-- What the evaluation of an operation shows. -/
def Shown [Tabs] (P : Program) (det : Bool) (g : Option Bool) (rd : Operand → AV) (H : Heap) (nx : Nat) (o : Oper) (k : Res → Prop) : Prop :=
  ∃ touch Rr, (gOk g → OpSemR P o (usesOf rd o) H nx touch Rr) ∧ (g ≠ none → ∃ r, (∀ r', Rr r' ↔ r' = r) ∧ r.wr = [] ∧ r.nx = nx) ∧ (det = true → ∃ r, (∀ r', Rr r' ↔ r' = r) ∧ r.touch = touch) ∧ ∀ r, Rr r → nx ≤ r.nx ∧ k r

theorem shown_pure [Tabs] {P : Program} {det : Bool} {g : Option Bool} {rd : Operand → AV} {H : Heap} {nx : Nat} {o : Oper} {k : Res → Prop} {us : Uses} (hu : ∀ u ∈ us, u ∈ usesOf rd o)
    (h : ∃ r, (gOk g → OpSemP P o us H nx r) ∧ (r.wr = [] ∧ r.nx = nx) ∧ k r) : Shown P det g rd H nx o k := by
  obtain ⟨r, h1, ⟨h2, h3⟩, h4⟩ := h
  exact ⟨r.touch, fun r' => r' = r, fun hg => opsem_uses (h1 hg).sem.toR hu, fun _ => ⟨r, fun _ => Iff.rfl, h2, h3⟩, fun _ => ⟨r, fun _ => Iff.rfl, rfl⟩, fun r' e => by subst e; exact ⟨Nat.le_of_eq h3.symm, h4⟩⟩

theorem shown_pure' [Tabs] {P : Program} {det : Bool} {g : Option Bool} {rd : Operand → AV} {H : Heap} {nx : Nat} {o : Oper} {k : Res → Prop} {us : Uses} (hu : ∀ u ∈ us, u ∈ usesOf rd o)
    (h : ∃ r, OpSemP P o us H nx r ∧ (r.wr = [] ∧ r.nx = nx) ∧ k r) : Shown P det g rd H nx o k :=
  shown_pure hu (let ⟨r, h1, h2⟩ := h; ⟨r, fun _ => h1, h2⟩)

theorem shown_act [Tabs] {P : Program} {det : Bool} {g : Option Bool} {rd : Operand → AV} {H : Heap} {nx : Nat} {o : Oper} {k : Res → Prop} {us : Uses} (hg : g = none) (hu : ∀ u ∈ us, u ∈ usesOf rd o)
    (h : ∃ r, OpSem P o us H nx r ∧ nx ≤ r.nx ∧ k r) : Shown P det g rd H nx o k := by
  obtain ⟨r, h1, h2, h3⟩ := h
  subst hg
  exact ⟨r.touch, fun r' => r' = r, fun _ => opsem_uses h1.toR hu, fun h => (h rfl).elim, fun _ => ⟨r, fun _ => Iff.rfl, rfl⟩, fun r' e => by subst e; exact ⟨h2, h3⟩⟩

theorem Shown.mono [Tabs] {P : Program} {det : Bool} {g : Option Bool} {rd : Operand → AV} {H : Heap} {nx : Nat} {o : Oper} {k k' : Res → Prop} (h : Shown P det g rd H nx o k) (hk : ∀ r, k r → k' r) : Shown P det g rd H nx o k' :=
  let ⟨t, R, h1, h2, h3, h4⟩ := h
  ⟨t, R, h1, h2, h3, fun r hr => ⟨(h4 r hr).1, hk r (h4 r hr).2⟩⟩

theorem uses_all {rd : Operand → AV} {o : Oper} {l : List Operand} (h : ∀ y ∈ l, y ∈ o.op.operands.toList) : ∀ u ∈ (l.map fun y => (y, true, rd y) : Uses), u ∈ usesOf rd o := by
  intro u hu
  obtain ⟨y, hy, rfl⟩ := List.mem_map.1 hu
  exact List.mem_map.2 ⟨y, h y hy, rfl⟩

theorem evCall_sound [Tabs] {C : Cx} (hT : TabOk C.P C.T) {det : Bool} {g : Option Bool} {rd : Operand → AV} {H : Heap} {nx : Nat} {o : Oper} {c : Call} (ho : o.op = .call c) {k : Res → Prop} (h : evCall C det g rd H nx c k) : Shown C.P det g rd H nx o k := by
  obtain ⟨callee, args, ats⟩ := c
  cases callee with
  | invoke r m => exact h.elim
  | builtin b =>
    have hops : o.op.operands.toList = args.toList := by rw [ho]; simp [Op.operands, Call.operands]
    cases b with
    | len =>
      simp only [evCall] at h
      split at h
      · rename_i x t hx ht
        have ha : args = #[x] := by apply Array.ext'; simpa using hx
        have hb : ats = #[t] := by apply Array.ext'; simpa using ht
        subst ha
        subst hb
        split at h
        · rename_i id hq
          exact shown_pure' (uses_all (l := [x]) (by rw [hops]; simp)) (evLenQ_sound hT ho (queOf_own hq) h)
        · exact shown_pure' (uses_all (l := [x]) (by rw [hops]; simp)) (evLen_sound hT ho h)
      · exact h.elim
    | append =>
      simp only [evCall] at h
      split at h
      · rename_i s x t t' hx ht
        have ha : args = #[s, x] := by apply Array.ext'; simpa using hx
        have hb : ats = #[t, t'] := by apply Array.ext'; simpa using ht
        subst ha
        subst hb
        split at h
        · rename_i hbeq
          have := Nat.eq_of_beq_eq_true hbeq
          subst this
          obtain ⟨hg, h⟩ := un_iff.1 h
          split at h
          · rename_i id hq
            exact shown_act hg (uses_all (l := [s, x]) (by rw [hops]; simp)) (evAppendQ_sound hT ho (queOf_own hq) h)
          · exact shown_act hg (uses_all (l := [s, x]) (by rw [hops]; simp)) (evAppend_sound hT ho h)
        · exact h.elim
      · exact h.elim
    | min =>
      simp only [evCall] at h
      split at h
      · rename_i x y hx
        have ha : args = #[x, y] := by apply Array.ext'; simpa using hx
        subst ha
        exact shown_pure' (uses_all (l := [x, y]) (by rw [hops]; simp)) (evMin_sound (isMax := false) ho h)
      · exact h.elim
    | max =>
      simp only [evCall] at h
      split at h
      · rename_i x y hx
        have ha : args = #[x, y] := by apply Array.ext'; simpa using hx
        subst ha
        exact shown_pure' (uses_all (l := [x, y]) (by rw [hops]; simp)) (evMin_sound (isMax := true) ho h)
      · exact h.elim
    | _ => exact h.elim
  | value fop =>
    have hops : o.op.operands.toList = fop :: args.toList := by rw [ho]; simp [Op.operands, Call.operands]
    simp only [evCall] at h
    split at h
    · rename_i f first cap hf
      rw [forceL_iff] at h
      have hu : ∀ u ∈ ((fop :: args.toList).map fun y => (y, true, rd y) : Uses), u ∈ usesOf rd o := uses_all (by rw [hops]; simp)
      cases h with
      | any args' touch R hd hc hb hflat hk =>
        obtain ⟨rfl, rfl⟩ := hd
        refine ⟨touch, _, fun _ => opsem_uses (sem_call ho hf hb hc hflat) hu, fun h => (h rfl).elim, fun h => (by cases h), ?_⟩
        rintro r ⟨rs, hR, rfl⟩
        have := takeR_eq _ _ _ _ _ (hk rs hR)
        simp only [List.reverse_nil, List.nil_append, List.append_nil] at this
        exact ⟨tn_ge rs nx, this⟩
      | raw touch Rr hd hdet hc hk =>
        subst hd
        exact ⟨touch, Rr, fun _ => opsem_uses (sem_callraw ho hf hc) hu, fun h => (h rfl).elim, hdet, hk⟩
      | one args' touch rs hc hb hflat hg hk =>
        have hfl : touch = [] ∨ ∀ rs', rs' = rs → ∀ r ∈ rs', r.flat := by
          rcases hflat with h | h
          · exact .inl h
          · exact .inr fun rs' e => by subst e; exact h
        have hiff : ∀ r' : Res, (∃ rs', rs' = rs ∧ r' = ⟨valR (tv rs' nx), touch, tw rs' nx, tn rs' nx⟩) ↔ r' = ⟨valR (tv rs nx), touch, tw rs nx, tn rs nx⟩ := by
          intro r'
          constructor
          · rintro ⟨rs', rfl, rfl⟩; rfl
          · rintro rfl; exact ⟨rs, rfl, rfl⟩
        have htn : ∀ (rs : List AR) (nx : Nat), tw rs nx = [] → tn rs nx = nx := by
          intro rs
          induction rs with
          | nil => intro nx _; rfl
          | cons r rs ih =>
            intro nx h
            cases r with
            | val a => exact ih nx h
            | new b => simp [tw] at h
        refine ⟨touch, fun r' => ∃ rs', rs' = rs ∧ r' = ⟨valR (tv rs' nx), touch, tw rs' nx, tn rs' nx⟩, fun hg' => opsem_uses (sem_call ho hf hb (hc hg') hfl) hu, fun hne => ⟨⟨valR (tv rs nx), touch, tw rs nx, tn rs nx⟩, hiff, ?_, ?_⟩, fun _ => ⟨⟨valR (tv rs nx), touch, tw rs nx, tn rs nx⟩, hiff, rfl⟩, ?_⟩
        · rcases hg with h | h
          · exact (hne h).elim
          · exact h
        · rcases hg with h | h
          · exact (hne h).elim
          · exact htn rs nx h
        · rintro r hr
          obtain ⟨rs', rfl, rfl⟩ := hr
          have := takeR_eq _ _ _ _ _ hk
          simp only [List.reverse_nil, List.nil_append, List.append_nil] at this
          exact ⟨tn_ge rs' nx, this⟩
    · exact h.elim

theorem evMove_sound [Tabs] {P : Program} {rd : Operand → AV} {H : Heap} {nx : Nat} {x : Operand} {o : Oper} (ho : o.op = .move x ∨ o.op = .assign x) {k : Res → Prop} (h : k ⟨rd x, [], [], nx⟩) :
    ∃ r, OpSemP P o [(x, true, rd x)] H nx r ∧ (r.wr = [] ∧ r.nx = nx) ∧ k r := by
  refine ⟨_, opsem_pure fun m S w a H₂ hG ht hus => ⟨a.eval x, fun w' _ => ?_, hus (x, true, rd x) (by simp) rfl⟩, ⟨rfl, rfl⟩, h⟩
  unfold execOp
  rcases ho with ho | ho <;> simp [ho]

theorem evOp_sound [Tabs] {C : Cx} (hT : TabOk C.P C.T) {det : Bool} {g : Option Bool} {rd : Operand → AV} {H : Heap} {nx : Nat} {o : Oper} {k : Res → Prop} (h : evOp C det g rd H nx o k) : Shown C.P det g rd H nx o k := by
  unfold evOp at h
  split at h
  · rename_i x ho
    exact shown_pure' (uses_all (l := [x]) (by rw [ho]; simp [Op.operands])) (evMove_sound (.inl ho) h)
  · rename_i x ho
    exact shown_pure' (uses_all (l := [x]) (by rw [ho]; simp [Op.operands])) (evMove_sound (.inr ho) h)
  · rename_i t ho
    obtain ⟨hg, h⟩ := un_iff.1 h
    exact shown_act hg (by simp) (evAlloc_sound hT ho h)
  · rename_i t x ho
    obtain ⟨hg, h⟩ := un_iff.1 h
    exact shown_act hg (uses_all (l := [x]) (by rw [ho]; simp [Op.operands])) (evBox_sound ho h)
  · rename_i t parts ho
    refine shown_pure' (us := parts.toList.map fun p => (p.2, true, rd p.2)) (fun u hu => ?_) (evBuild_sound hT ho h)
    obtain ⟨p, hp, rfl⟩ := List.mem_map.1 hu
    exact List.mem_map.2 ⟨p.2, by rw [ho]; simp [Op.operands]; exact ⟨p.1, by simpa using hp⟩, rfl⟩
  · rename_i t n parts ho
    obtain ⟨hg, h⟩ := un_iff.1 h
    refine shown_act (us := parts.toList.map fun p => (p.2, true, rd p.2)) hg (fun u hu => ?_) (evBuildSliceF_sound hT ho h)
    obtain ⟨p, hp, rfl⟩ := List.mem_map.1 hu
    exact List.mem_map.2 ⟨p.2, by rw [ho]; simp [Op.operands]; exact ⟨p.1, by simpa using hp⟩, rfl⟩
  · rename_i t x ho
    exact shown_pure (uses_all (l := [x]) (by rw [ho]; simp [Op.operands])) (evLoad_sound hT ho h)
  · rename_i t x y ho
    obtain ⟨hg, h⟩ := un_iff.1 h
    exact shown_act hg (uses_all (l := [x, y]) (by rw [ho]; simp [Op.operands])) (evStoreF_sound hT ho h)
  · rename_i x ho
    exact shown_pure' (uses_all (l := [x]) (by rw [ho]; simp [Op.operands])) (evNilCheck_sound ho h)
  · rename_i op t x y yt ho
    unfold evBinO at h
    split at h
    · rename_i hy
      split at h
      · exact shown_pure' (uses_all (l := [x, y]) (by rw [ho]; simp [Op.operands])) (evNilG_sound hT ho hy h)
      · split at h
        · exact shown_pure' (uses_all (l := [x, y]) (by rw [ho]; simp [Op.operands])) (evNilG_sound hT ho hy h)
        have hu : ∀ u ∈ ([(x, true, rd x), (y, true, rd y)] : Uses), u ∈ usesOf rd o := uses_all (l := [x, y]) (by rw [ho]; simp [Op.operands])
        split at h
        · rename_i e a1 a2 a3 hi
          split at h
          · obtain ⟨Rr, h1, h2⟩ := evNilS_sound (neg := false) hT ho hy hi h
            exact ⟨[], Rr, fun _ => opsem_uses h1 hu, fun h => (h rfl).elim, fun h => (by cases h), h2⟩
          · obtain ⟨Rr, h1, h2⟩ := evNilS_sound (neg := true) hT ho hy hi h
            exact ⟨[], Rr, fun _ => opsem_uses h1 hu, fun h => (h rfl).elim, fun h => (by cases h), h2⟩
          · exact h.elim
        · exact h.elim
    · split at h
      · exact shown_pure (uses_all (l := [x, y]) (by rw [ho]; simp [Op.operands])) (evBin2_sound hT ho h)
      · exact shown_pure (uses_all (l := [x, y]) (by rw [ho]; simp [Op.operands])) (evBinW_sound hT ho h)
  · rename_i t x y ok ho
    exact shown_pure' (uses_all (l := [x, y]) (by rw [ho]; simp [Op.operands])) (evLookup_sound hT ho h)
  · rename_i t x y z ho
    obtain ⟨hg, h⟩ := un_iff.1 h
    exact shown_act hg (uses_all (l := [x, y, z]) (by rw [ho]; simp [Op.operands])) (evMapUpdate_sound hT ho h)
  · rename_i t ho
    obtain ⟨hg, h⟩ := un_iff.1 h
    exact shown_act hg (by simp) (evMakeMap_sound ho h)
  · rename_i t x y ho
    obtain ⟨hg, h⟩ := un_iff.1 h
    exact shown_act hg (uses_all (l := [x, y]) (by rw [ho]; simp [Op.operands])) (evMakeSlice_sound hT ho h)
  · rename_i op t x ho
    exact shown_pure (uses_all (l := [x]) (by rw [ho]; simp [Op.operands])) (evUn_sound ho h)
  · rename_i s d x ho
    exact shown_pure (uses_all (l := [x]) (by rw [ho]; simp [Op.operands])) (evConvert_sound hT ho h)
  · rename_i fn first cap ho
    exact shown_pure' (uses_all (l := first.toList ++ cap.toList) (by rw [ho]; simp [Op.operands])) (evMakeFunc_sound ho h)
  · rename_i t x lo hi ho
    have hus : ∀ u ∈ optUses rd x lo hi, u ∈ usesOf rd o := by
      have : optUses rd x lo hi = ((x :: (lo.toList ++ hi.toList)).map fun y => (y, true, rd y)) := rfl
      rw [this]
      exact uses_all (by rw [ho]; cases lo <;> cases hi <;> simp [Op.operands])
    split at h
    · rename_i id hq
      obtain ⟨hg, h⟩ := un_iff.1 h
      exact shown_act hg hus (evSliceQ_sound hT ho (queOf_own hq) h)
    · exact shown_pure (us := optUses rd x lo hi) hus (evSlice_sound hT ho h)
  · rename_i t x f ho
    exact shown_pure' (uses_all (l := [x]) (by rw [ho]; simp [Op.operands])) (evFieldAddr_sound hT ho h)
  · rename_i t x f ho
    exact shown_pure' (uses_all (l := [x]) (by rw [ho]; simp [Op.operands])) (evField_sound hT ho h)
  · rename_i t x i ho
    split at h
    · rename_i id hq
      exact shown_pure (uses_all (l := [x, i]) (by rw [ho]; simp [Op.operands])) (evIndexAddrQ_sound hT ho (queOf_own hq) h)
    · exact shown_pure (uses_all (l := [x, i]) (by rw [ho]; simp [Op.operands])) (evIndexAddr_sound hT ho h)
  · rename_i t x i ho
    exact shown_pure (uses_all (l := [x, i]) (by rw [ho]; simp [Op.operands])) (evIndex_sound hT ho h)
  · rename_i x n ho
    exact shown_pure' (uses_all (l := [x]) (by rw [ho]; simp [Op.operands])) (evExtract_sound ho h)
  · rename_i c ho
    exact evCall_sound hT ho h
  · exact h.elim

end Go.Own
