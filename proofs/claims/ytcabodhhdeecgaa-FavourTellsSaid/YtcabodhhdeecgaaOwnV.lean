/-
  A region that draws its order and writes: evaluated in the text's order; every two operations that could see each other's work are ordered.
-/
import Derived.Test.YtcabodhhdeecgaaOwnU2
namespace Go.Own

/-- What an operation did in the text's order. -/
structure Rec : Type 1 where
  o : Oper
  v : AV
  touch : List Nat
  wr : List (Nat × AB)
  n0 : Nat
  n1 : Nat

def putE (dst : Option Nat) (v : AV) (env : Env) : Env :=
  match dst with
  | none => env
  | some d => (d, v) :: env

def envR (env : Env) : List Rec → Env
  | [] => env
  | r :: R => putE r.o.dst r.v (envR env R)

def heapR (H : Heap) : List Rec → Heap
  | [] => H
  | r :: R => r.wr ++ heapR H R

def nxR (nx : Nat) : List Rec → Nat
  | [] => nx
  | r :: _ => r.n1

/-- The operation is asked for. -/
def Want (ops : Array Oper) (env : Env) (o : Oper) : Prop :=
  o.guard = none ∨ ∃ j pol oj t, o.guard = some (j, pol) ∧ ops[j]? = some oj ∧ oj.dst = some t ∧ lk env t = .bool pol

/-- It is not. -/
def Skips (ops : Array Oper) (env : Env) (o : Oper) : Prop :=
  ∃ j pol oj t, o.guard = some (j, pol) ∧ ops[j]? = some oj ∧ oj.dst = some t ∧ (lk env t = .bool (!pol) ∨ lk env t = .skip)

def Hist [Tabs] (C : Cx) (ops : Array Oper) (env : Env) (H : Heap) (nx : Nat) : List Rec → Prop
  | [] => True
  | r :: R => Hist C ops env H nx R ∧ ops[R.length]? = some r.o ∧ (∀ d, r.o.dst = some d → d < C.N) ∧ r.n0 = nxR nx R ∧ r.n0 ≤ r.n1 ∧
     ((Want ops (envR env R) r.o ∧ OpSemR C.P r.o (usesOf (rdOp [] (envR env R)) r.o) (heapR H R) r.n0 r.touch (fun r' => r' = ⟨r.v, r.touch, r.wr, r.n1⟩)) ∨
      (Skips ops (envR env R) r.o ∧ r.v = .skip ∧ r.wr = [] ∧ r.n1 = r.n0))

abbrev Sig := List (Oper × List Nat × List Nat)

def idsK : List (Nat × AB) → (List Nat → Prop) → Prop
  | [], k => k []
  | (i, _) :: r, k => idsK r fun l => k (i :: l)

theorem idsK_iff : ∀ {wr : List (Nat × AB)} {k : List Nat → Prop}, idsK wr k ↔ k (wr.map (·.1))
  | [], k => Iff.rfl
  | (i, b) :: r, k => by simp only [idsK, idsK_iff, List.map_cons]

/-- One of two, where the condition is told. -/
def evPickD (rd : Operand → AV) (c a b : Operand) (k : AV → Prop) : Prop :=
  match rd c with
  | .bool cb => (cb = true → k (rd a)) ∧ (cb = false → k (rd b))
  | _ => False

theorem evPickD_sound [Tabs] {P : Program} {rd : Operand → AV} {H : Heap} {nx : Nat} {c x y : Operand} {o : Oper} (ho : o.op = .pick c x y) {k : Res → Prop} (h : evPickD rd c x y fun v => k ⟨v, [], [], nx⟩) :
    ∃ r, OpSemP P o [(c, true, rd c), (x, true, rd x), (y, true, rd y)] H nx r ∧ (r.wr = [] ∧ r.nx = nx) ∧ k r := by
  unfold evPickD at h
  split at h
  · rename_i cb hc
    refine ⟨⟨if cb then rd x else rd y, [], [], nx⟩, opsem_pure fun m S w a H₂ hG ht hus => ?_, ⟨rfl, rfl⟩, ?_⟩
    · have h1 := hus (c, true, rd c) (by simp) rfl
      have h2 := hus (x, true, rd x) (by simp) rfl
      have h3 := hus (y, true, rd y) (by simp) rfl
      simp only [hc] at h1
      have hv := relV_bool h1
      cases cb with
      | true =>
        refine ⟨a.eval x, fun w' _ => ?_, h2⟩
        unfold execOp
        simp [ho, hv, asBool]
      | false =>
        refine ⟨a.eval y, fun w' _ => ?_, h3⟩
        unfold execOp
        simp [ho, hv, asBool]
    · cases cb with
      | true => exact h.1 rfl
      | false => exact h.2 rfl
  · exact h.elim

/-- The operation at a place of a region that draws, pick among them. -/
def evOpD [Tabs] (C : Cx) (rd : Operand → AV) (H : Heap) (nx : Nat) (o : Oper) (k : Res → Prop) : Prop :=
  match o.op with
  | .pick c a b => evPickD rd c a b fun v => k ⟨v, [], [], nx⟩
  | _ => evOp C true none rd H nx o k

/-- The value is written. -/
def putEK (dst : Option Nat) (v : AV) (env : Env) (k : Env → Prop) : Prop :=
  match dst with
  | none => k env
  | some d => forceAV v fun v => k ((d, v) :: env)

theorem putEK_iff {dst : Option Nat} {v : AV} {env : Env} {k : Env → Prop} : putEK dst v env k ↔ k (putE dst v env) := by
  cases dst with
  | none => exact Iff.rfl
  | some d => simp only [putEK, forceAV_iff]; rfl

/-- What guards the operation. -/
def gateK [Tabs] (C : Cx) (all : List Oper) (env : Env) (H : Heap) (nx : Nat) (o : Oper) (next : AV → List Nat → List (Nat × AB) → Nat → Prop) : Prop :=
  match o.guard with
  | none => evOpD C (rdOp [] env) H nx o fun r => match r with
    | ⟨v, touch, wr, nx'⟩ => next v touch wr nx'
  | some (j, pol) => match all[j]? with
    | none => False
    | some oj => match oj.dst with
      | none => False
      | some t => match lk env t with
        | .skip => next .skip [] [] nx
        | .bool b => (b = pol → evOpD C (rdOp [] env) H nx o fun r => match r with
            | ⟨v, touch, wr, nx'⟩ => next v touch wr nx') ∧ (b = !pol → next .skip [] [] nx)
        | _ => False

/-- What guards the operation. -/
def gateP (all : List Oper) (env : Env) (g : Option (Nat × Bool)) (yes no : Prop) : Prop :=
  match g with
  | none => yes
  | some (j, pol) => match all[j]? with
    | none => False
    | some oj => match oj.dst with
      | none => False
      | some t => match lk env t with
        | .skip => no
        | .bool b => (b = pol → yes) ∧ (b = !pol → no)
        | _ => False

theorem gateP_sound {ops : Array Oper} {env : Env} {o : Oper} {yes no : Prop} (h : gateP ops.toList env o.guard yes no) : (Want ops env o ∧ yes) ∨ (Skips ops env o ∧ no) := by
  unfold gateP at h
  split at h
  · rename_i hg
    exact .inl ⟨.inl hg, h⟩
  · rename_i j pol hg
    split at h
    · exact h.elim
    · rename_i oj hj
      have hj' : ops[j]? = some oj := by simpa using hj
      split at h
      · exact h.elim
      · rename_i t ht
        split at h
        · rename_i hl
          exact .inr ⟨⟨j, pol, oj, t, hg, hj', ht, .inr hl⟩, h⟩
        · rename_i b hl
          by_cases e : b = pol
          · subst e
            exact .inl ⟨.inr ⟨j, b, oj, t, hg, hj', ht, hl⟩, h.1 rfl⟩
          · have e' : b = !pol := by cases b <;> cases pol <;> simp_all
            subst e'
            exact .inr ⟨⟨j, pol, oj, t, hg, hj', ht, .inl hl⟩, h.2 rfl⟩
        · exact h.elim

theorem gateK_sound [Tabs] {C : Cx} {ops : Array Oper} {env : Env} {H : Heap} {nx : Nat} {o : Oper} {next : AV → List Nat → List (Nat × AB) → Nat → Prop} (h : gateK C ops.toList env H nx o next) :
    (Want ops env o ∧ evOpD C (rdOp [] env) H nx o fun r => match r with | ⟨v, touch, wr, nx'⟩ => next v touch wr nx') ∨ (Skips ops env o ∧ next .skip [] [] nx) := by
  refine gateP_sound ?_
  unfold gateK at h
  unfold gateP
  exact h

def evOpsD [Tabs] (C : Cx) (all : List Oper) : List Oper → Env → Heap → Nat → Sig → (Sig → Env → Heap → Nat → Prop) → Prop
  | [], env, H, nx, sg, k => k sg env H nx
  | o :: rest, env, H, nx, sg, k => match dstOk C.N o.dst [] with
    | false => False
    | true => gateK C all env H nx o fun v touch wr nx' => idsK wr fun ids => putEK o.dst v env fun env' => pushK wr H fun H' => evOpsD C all rest env' H' nx' ((o, touch, ids) :: sg) k

def looksOf (ops : List Oper) (o : Oper) : List Nat := (match o.guard with
  | none => []
  | some (j, _) => match ops[j]? with
    | some oj => oj.dst.toList
    | none => []) ++ o.op.operands.toList.filterMap fun
  | .tmp t => some t
  | _ => none

def meets (a b : List Nat) : Bool := a.any fun i => b.any fun j => Nat.beq i j

def dstIn (d : Option Nat) (l : List Nat) : Bool :=
  match d with
  | none => false
  | some d => l.any fun j => Nat.beq d j

def dstSame (a b : Option Nat) : Bool :=
  match a, b with
  | some d, some e => Nat.beq d e
  | _, _ => false

def clash (ops : List Oper) (x y : Oper × List Nat × List Nat) : Bool :=
  dstIn x.1.dst (looksOf ops y.1) || dstIn y.1.dst (looksOf ops x.1) || dstSame x.1.dst y.1.dst || meets x.2.2 y.2.1 || meets x.2.2 y.2.2 || meets y.2.2 x.2.1

def maskGo (ms : List Nat) : List Edge → Nat
  | [] => 0
  | e :: r => match Region.binds .any e with
    | true => (2 ^ e.on ||| ms.getD e.on 0) ||| maskGo ms r
    | false => maskGo ms r

def masksF : List Oper → List Nat → List Nat
  | [], ms => ms
  | o :: r, ms => masksF r (ms ++ [maskGo ms o.after.toList])

def pairsB (ops : List Oper) (m : Nat) (x : Oper × List Nat × List Nat) : Sig → Bool
  | [] => true
  | y :: L => (!clash ops y x || Nat.testBit m L.length) && pairsB ops m x L

def edgesB (n : Nat) : List Edge → Bool
  | [] => true
  | e :: r => (!Region.binds .any e || Nat.blt e.on n) && edgesB n r

def ordR (ops : List Oper) (ms : List Nat) : Sig → Bool
  | [] => true
  | x :: L => edgesB L.length x.1.after.toList && pairsB ops (ms.getD L.length 0) x L && ordR ops ms L

def ordB (ops : Array Oper) (L : Sig) : Bool := ordR ops.toList (masksF ops.toList []) L

/-- The executed ones are closed under what must come before. -/
def Closed (ops : Array Oper) (E : Nat → Bool) : Prop := ∀ (j : Nat) (o : Oper), ops[j]? = some o → E j = true → ∀ e ∈ o.after, Region.binds .any e = true → E e.on = true

theorem maskGo_spec {ms : List Nat} {i : Nat} : ∀ {l : List Edge}, (maskGo ms l).testBit i = true → ∃ e ∈ l, Region.binds .any e = true ∧ (e.on = i ∨ (ms.getD e.on 0).testBit i = true)
  | [], h => by simp [maskGo] at h
  | e :: l, h => by
    unfold maskGo at h
    split at h
    · rename_i hb
      simp only [Nat.testBit_or, Bool.or_eq_true] at h
      rcases h with (h | h) | h
      · refine ⟨e, by simp, hb, .inl ?_⟩
        rw [Nat.testBit_two_pow] at h
        simpa using h
      · exact ⟨e, by simp, hb, .inr h⟩
      · obtain ⟨e', h1, h2⟩ := maskGo_spec h
        exact ⟨e', by simp [h1], h2⟩
    · obtain ⟨e', h1, h2⟩ := maskGo_spec h
      exact ⟨e', by simp [h1], h2⟩

theorem masksF_spec {ops : Array Oper} {E : Nat → Bool} (hE : Closed ops E) : ∀ (l : List Oper) (ms : List Nat), (∀ k, l[k]? = ops[ms.length + k]?) →
    (∀ j i, (ms.getD j 0).testBit i = true → (∀ o, ops[j]? = some o → ∀ e ∈ o.after, Region.binds .any e = true → E e.on = true) → E i = true) →
    ∀ j i, ((masksF l ms).getD j 0).testBit i = true → (∀ o, ops[j]? = some o → ∀ e ∈ o.after, Region.binds .any e = true → E e.on = true) → E i = true
  | [], ms, hl, h, j, i => h j i
  | o :: l, ms, hl, h, j, i => by
    refine masksF_spec hE l _ (fun k => ?_) (fun j i hb hp => ?_) j i
    · have := hl (k + 1)
      rw [List.getElem?_cons_succ] at this
      rw [this]
      simp [Nat.add_assoc, Nat.add_comm 1 k]
    · by_cases hj : j < ms.length
      · have : (ms ++ [maskGo ms o.after.toList]).getD j 0 = ms.getD j 0 := by simp [List.getD, List.getElem?_append_left hj]
        rw [this] at hb
        exact h j i hb hp
      · by_cases hj2 : j = ms.length
        · subst hj2
          have : (ms ++ [maskGo ms o.after.toList]).getD ms.length 0 = maskGo ms o.after.toList := by simp [List.getD]
          rw [this] at hb
          obtain ⟨e, he, hbe, hor⟩ := maskGo_spec hb
          have ho : ops[ms.length]? = some o := by have := hl 0; simpa using this.symm
          have hon := hp o ho e (by simpa using he) hbe
          rcases hor with h1 | h1
          · rw [← h1]; exact hon
          · exact h e.on i h1 fun o' ho' e' he' hb' => hE e.on o' ho' hon e' he' hb'
        · have : (ms ++ [maskGo ms o.after.toList]).getD j 0 = 0 := by
            rw [List.getD, List.getElem?_eq_none (by simp; omega)]
            rfl
          rw [this] at hb
          simp at hb

/-! ### Looking through the executed ones -/

def lay {X : Type _} (f : Rec → Option X) (x0 : X) (E : Nat → Bool) : List Rec → X
  | [] => x0
  | r :: R => match E R.length, f r with
    | true, some x => x
    | _, _ => lay f x0 E R

theorem lay_cons {X : Type _} {f : Rec → Option X} {x0 : X} {E : Nat → Bool} {r : Rec} {R : List Rec} : lay f x0 E (r :: R) = match E R.length with | true => (f r).getD (lay f x0 E R) | false => lay f x0 E R := by
  have e : lay f x0 E (r :: R) = (match E R.length, f r with | true, some x => x | _, _ => lay f x0 E R) := rfl
  rw [e]
  cases E R.length <;> cases f r <;> rfl

theorem lay_skip {X : Type _} {f : Rec → Option X} {x0 : X} {E : Nat → Bool} {r : Rec} {R : List Rec} (h : f r ≠ none → E R.length = false) : lay f x0 E (r :: R) = lay f x0 E R := by
  have e : lay f x0 E (r :: R) = (match E R.length, f r with | true, some x => x | _, _ => lay f x0 E R) := rfl
  rw [e]
  cases hf : f r with
  | none => cases E R.length <;> rfl
  | some x => rw [h (by rw [hf]; simp)]

theorem lay_cut {X : Type _} {f : Rec → Option X} {x0 : X} {E : Nat → Bool} {T : List Rec} : ∀ {R : List Rec}, T <:+ R → (∀ r B, (r :: B) <:+ R → T.length ≤ B.length → f r ≠ none → E B.length = false) → lay f x0 E R = lay f x0 E T
  | [], hs, h => by rw [List.suffix_nil.1 hs]
  | x :: R, hs, h => by
    rcases List.suffix_cons_iff.1 hs with rfl | hs'
    · rfl
    · rw [lay_skip fun hf => h x R (List.suffix_refl _) hs'.length_le hf]
      exact lay_cut hs' fun r B hrB => h r B (hrB.trans (List.suffix_cons _ _))

theorem lay_congr {X : Type _} {f : Rec → Option X} {x0 : X} {E E' : Nat → Bool} : ∀ {R : List Rec}, (∀ r B, (r :: B) <:+ R → f r ≠ none → E B.length = E' B.length) → lay f x0 E R = lay f x0 E' R
  | [], h => rfl
  | x :: R, h => by
    have ih : lay f x0 E R = lay f x0 E' R := lay_congr fun r B hrB => h r B (hrB.trans (List.suffix_cons _ _))
    show (match E R.length, f x with | true, some x => x | _, _ => lay f x0 E R) = (match E' R.length, f x with | true, some x => x | _, _ => lay f x0 E' R)
    rw [ih]
    cases hf : f x with
    | none => cases E R.length <;> cases E' R.length <;> rfl
    | some y => rw [h x R (List.suffix_refl _) (by rw [hf]; simp)]

def fE (s : Nat) (r : Rec) : Option AV :=
  match r.o.dst with
  | none => none
  | some d => if d = s then some r.v else none

def findW : List (Nat × AB) → Nat → Option AB
  | [], _ => none
  | (i, b) :: r, j => if i = j then some b else findW r j

def fH (id : Nat) (r : Rec) : Option AB := findW r.wr id

theorem lkH_append (wr : List (Nat × AB)) (H : Heap) (id : Nat) : lkH (wr ++ H) id = (findW wr id).getD (lkH H id) := by
  induction wr with
  | nil => rfl
  | cons p wr ih =>
    obtain ⟨i, b⟩ := p
    rw [List.cons_append, lkH_cons]
    unfold findW
    split
    · rfl
    · exact ih

theorem findW_mem {wr : List (Nat × AB)} {id : Nat} (h : findW wr id ≠ none) : id ∈ wr.map (·.1) := by
  induction wr with
  | nil => exact (h rfl).elim
  | cons p wr ih =>
    obtain ⟨i, b⟩ := p
    unfold findW at h
    split at h
    · rename_i e; simp [e]
    · simp [ih h]

theorem lk_envR (env : Env) (s : Nat) : ∀ (R : List Rec), lk (envR env R) s = lay (fE s) (lk env s) (fun _ => true) R
  | [] => rfl
  | r :: R => by
    rw [lay_cons, ← lk_envR env s R]
    show lk (putE r.o.dst r.v (envR env R)) s = (fE s r).getD (lk (envR env R) s)
    unfold putE fE
    cases hd : r.o.dst with
    | none => rfl
    | some d =>
      simp only [lk_cons]
      split <;> rfl

theorem lkH_heapR (H : Heap) (id : Nat) : ∀ (R : List Rec), lkH (heapR H R) id = lay (fH id) (lkH H id) (fun _ => true) R
  | [] => rfl
  | r :: R => by
    rw [lay_cons, ← lkH_heapR H id R]
    exact lkH_append r.wr (heapR H R) id

def sigOf (r : Rec) : Oper × List Nat × List Nat := (r.o, r.touch, r.wr.map (·.1))

theorem pairsB_spec {ops : List Oper} {m : Nat} {x : Oper × List Nat × List Nat} : ∀ {R : List Rec}, pairsB ops m x (R.map sigOf) = true → ∀ r B, (r :: B) <:+ R → clash ops (sigOf r) x = true → Nat.testBit m B.length = true
  | [], _, r, B, hs, _ => by simp at hs
  | y :: R, h, r, B, hs, hc => by
    simp only [List.map_cons, pairsB, Bool.and_eq_true, Bool.or_eq_true, List.length_map] at h
    rcases List.suffix_cons_iff.1 hs with e | hs'
    · cases e
      rcases h.1 with h1 | h1
      · rw [hc] at h1; cases h1
      · exact h1
    · exact pairsB_spec h.2 r B hs' hc

theorem ordR_spec {ops : List Oper} {ms : List Nat} : ∀ {R : List Rec}, ordR ops ms (R.map sigOf) = true → ∀ r B, (r :: B) <:+ R → edgesB B.length r.o.after.toList = true ∧ pairsB ops (ms.getD B.length 0) (sigOf r) (B.map sigOf) = true
  | [], _, r, B, hs => by simp at hs
  | y :: R, h, r, B, hs => by
    simp only [List.map_cons, ordR, Bool.and_eq_true, List.length_map] at h
    rcases List.suffix_cons_iff.1 hs with e | hs'
    · cases e
      exact h.1
    · exact ordR_spec h.2 r B hs'

theorem edgesB_spec {n : Nat} : ∀ {l : List Edge}, edgesB n l = true → ∀ e ∈ l, Region.binds .any e = true → e.on < n
  | [], _, e, he, _ => by simp at he
  | x :: l, h, e, he, hb => by
    simp only [edgesB, Bool.and_eq_true, Bool.or_eq_true] at h
    rcases List.mem_cons.1 he with rfl | he
    · rcases h.1 with h1 | h1
      · rw [hb] at h1; cases h1
      · simpa [Nat.blt_eq] using h1
    · exact edgesB_spec h.2 e he hb

end Go.Own
