import Derived.Test.YtmcgfkkagijcmaaLb
import Derived.Shelf.SortM.Plain
import Derived.Shelf.SortM.SortNone
import Derived.Shelf.Slices.CompactI
import Derived.Lib.SlKeysI
import Derived.ProofKit
import Derived.Deep.Slices
import Derived.Shelf.SlIter.Nil
import Derived.Shelf.SlIterI.Nil
import Derived.Shelf.Strconv.Itoa3
import Derived.Shelf.Strconv.AtoiAll
import Derived.Shelf.Small.Wraps
import Derived.Shelf.Small.Strs
import Derived.Lib.Builder
import Derived.SizedLaws
/-
  Rows of the call's own that are read only from some point on.
-/
namespace Go.Own

def frzP (H : Heap) (id off : Nat) : AV :=
  match lkH H id with
  | .cells _ l => match treesB l with
    | true => .rop (dropL off l)
    | false => .ptr id off
  | _ => .ptr id off
def frz1 (H : Heap) (ids : List Nat) : AV → AV
  | .own id => match notIn id ids with
    | true => .own id
    | false => frz0 H (.own id)
  | .ptr id off => match notIn id ids with
    | true => .ptr id off
    | false => frzP H id off
  | v => v
def frzA (H : Heap) (ids : List Nat) : AV → AV
  | .agg l => .agg (l.map (frz1 H ids))
  | .fn f a b => .fn f (a.map (frz1 H ids)) (b.map (frz1 H ids))
  | v => frz1 H ids v
def frzB (H : Heap) (ids : List Nat) : AB → AB
  | .cells e l => .cells e (l.map (frz1 H ids))
  | b => b
def frzEnv (H : Heap) (ids : List Nat) : Env → Env
  | [] => []
  | (s, v) :: r => (s, frzA H ids v) :: frzEnv H ids r
def frzMap (H : Heap) (ids : List Nat) : Heap → Heap
  | [] => []
  | (i, b) :: r => (i, frzB H ids b) :: frzMap H ids r
def deads : List Nat → Heap → Heap
  | [], H => H
  | i :: l, H => (i, .dead) :: deads l H

theorem notIn_false {id : Nat} : ∀ {l : List Nat}, notIn id l = false → id ∈ l
  | [], h => by simp [notIn] at h
  | j :: l, h => by
    unfold notIn at h
    split at h
    · rename_i hb
      rw [Nat.eq_of_beq_eq_true hb]
      exact List.mem_cons_self
    · exact List.mem_cons.2 (.inr (notIn_false h))

theorem lk_frzEnv (H : Heap) (ids : List Nat) : ∀ (env : Env) (s : Nat), lk (frzEnv H ids env) s = frzA H ids (lk env s)
  | [], s => rfl
  | (i, v) :: r, s => by
    rw [frzEnv, lk_cons, lk_cons, lk_frzEnv H ids r s]
    split <;> rfl
theorem lkH_frzMap (H : Heap) (ids : List Nat) : ∀ (H' : Heap) (s : Nat), lkH (frzMap H ids H') s = frzB H ids (lkH H' s)
  | [], s => rfl
  | (i, v) :: r, s => by
    rw [frzMap, lkH_cons, lkH_cons, lkH_frzMap H ids r s]
    split <;> rfl
theorem lkH_deads : ∀ (ids : List Nat) (H : Heap) (s : Nat), lkH (deads ids H) s = if s ∈ ids then .dead else lkH H s
  | [], H, s => by simp [deads]
  | i :: l, H, s => by
    rw [deads, lkH_cons, lkH_deads l H s]
    by_cases e : i = s
    · subst e; simp
    · rw [if_neg e]
      have : s ≠ i := fun h => e h.symm
      simp [this]

theorem frz1_rel [Tabs] {m : Ids} {S : Blocks} {w : World} {H : Heap} {ids : List Nat} {u : Value} {v : AV} (hG : Good m S w H) (h : RelV m S w u v) : RelV m (fun g => S g ∨ lent m H ids g) w u (frz1 H ids v) := by
  have same : RelV m (fun g => S g ∨ lent m H ids g) w u v := h.mono (fun _ _ h => h) (fun _ h => .inl h) (fun _ _ => rfl)
  unfold frz1
  split
  · rename_i id
    split
    · exact same
    · rename_i hn
      exact frz0_rel hG (fun _ _ => rfl) (fun _ h => .inl h) (fun g ⟨i, v, hi, h1, h2, h3⟩ => .inr ⟨i, v, by
        simp only [frz0I, List.mem_singleton] at hi
        subst hi
        exact notIn_false hn, h1, h2, h3⟩) h
  · rename_i id off
    split
    · exact same
    · rename_i hn
      unfold frzP
      split
      · rename_i e l hc
        split
        · rename_i ht
          have hb := hG.rel id
          rw [hc] at hb
          obtain ⟨g, cs, hmi, hg, hl, h1, hrel⟩ := hb
          cases h with
          | t _ _ h => cases h
          | ptr id off g' hm =>
            rw [hmi] at hm
            cases hm
            rw [dropL_eq]
            refine .t _ _ (.rop g off (l.drop off) (cs.toList.drop off) (.inr ⟨id, _, notIn_false hn, by rw [hc]; rfl, hmi, rfl⟩) (by simp; omega) (fun a ha => h1 a (List.mem_of_mem_drop ha)) (fun j c hj => ?_) (fun j c a hj ha => ?_))
            · rw [List.getElem?_drop] at hj
              rw [cell_of_row w g (off + j) cs e (0, 0) hg]
              simpa using hj
            · rw [List.getElem?_drop] at hj ha
              refine RelT.more (fun _ h => .inl h) ((hrel (off + j) c a (by simpa using hj) ha).toT (treesB_spec ht a (List.mem_of_getElem? ha)))
        · exact same
      · exact same
  · exact same

theorem frz1_one (H : Heap) (ids : List Nat) (v : AV) (h : v.one = true) : (frz1 H ids v).one = true := by
  unfold frz1
  split
  · split
    · rfl
    · simp only [frz0]
      split <;> rfl
  · split
    · rfl
    · unfold frzP
      split
      · split <;> rfl
      · rfl
  · exact h

theorem frzA_rel [Tabs] {m : Ids} {S : Blocks} {w : World} {H : Heap} {ids : List Nat} {u : Value} {v : AV} (hG : Good m S w H) (h : RelV m S w u v) : RelV m (fun g => S g ∨ lent m H ids g) w u (frzA H ids v) := by
  unfold frzA
  split
  · rename_i l
    obtain ⟨cs, rfl, hl, hr⟩ := relV_agg h
    refine .agg cs _ (by simpa using hl) fun j c a hj ha => ?_
    simp only [List.getElem?_map, Option.map_eq_some_iff] at ha
    obtain ⟨a0, ha0, rfl⟩ := ha
    exact frz1_rel hG (hr j c a0 hj ha0)
  · rename_i f x y
    obtain ⟨fs, cs, rfl, h1, h2, r1, r2⟩ := relV_fn h
    refine .fn f fs cs _ _ (by simpa using h1) (by simpa using h2) (fun j c a hj ha => ?_) (fun j c a hj ha => ?_)
    · simp only [List.getElem?_map, Option.map_eq_some_iff] at ha
      obtain ⟨a0, ha0, rfl⟩ := ha
      exact frz1_rel hG (r1 j c a0 hj ha0)
    · simp only [List.getElem?_map, Option.map_eq_some_iff] at ha
      obtain ⟨a0, ha0, rfl⟩ := ha
      exact frz1_rel hG (r2 j c a0 hj ha0)
  · exact frz1_rel hG h

theorem frzB_live (H : Heap) (ids : List Nat) (b : AB) : (frzB H ids b).live = b.live := by cases b <;> rfl

theorem rel_frz [Tabs] {F : Fr} {N : Nat} {env : Env} {H : Heap} {nx : Nat} {a : Act} {w : World} (ids : List Nat) : Rel F N ⟨env, H, nx⟩ a w → Rel F N ⟨frzEnv H ids env, deads ids (frzMap H ids H), nx⟩ a w := by
  rintro ⟨m, S, hc, hs, hd, hr⟩
  have hG := hc.good
  have hG1 := good_freeze hG ids
  have hlk : ∀ i, lkH (deads ids (frzMap H ids H)) i = if i ∈ ids then .dead else frzB H ids (lkH H i) := fun i => by rw [lkH_deads, lkH_frzMap]
  have hlive : ∀ i, (lkH (deads ids (frzMap H ids H)) i).live = (lkH (ids.map (fun i => (i, AB.dead)) ++ H) i).live := fun i => by
    rw [hlk, lkH_dead]
    split
    · rfl
    · exact frzB_live H ids _
  have hlive0 : ∀ i, (lkH (deads ids (frzMap H ids H)) i).live = true → (lkH H i).live = true := fun i hl => by
    rw [hlk] at hl
    split at hl
    · cases hl
    · rwa [frzB_live] at hl
  refine ⟨m, fun g => S g ∨ lent m H ids g, ⟨⟨fun id => ?_, fun i j vi vj k hi hj => hG1.sep i j vi vj k (by rw [← hlive]; exact hi) (by rw [← hlive]; exact hj), fun g hg => ⟨(hG1.ro g hg).1, fun i v hl => (hG1.ro g hg).2 i v (by rw [← hlive]; exact hl)⟩, hG1.tab⟩, hc.free, hc.far, ?_, ?_, fun g hg => .inl (hc.ro0 g hg), hc.pins⟩, hs, hd, fun s => ?_⟩
  · have h0 := hG1.rel id
    rw [lkH_dead] at h0
    rw [hlk]
    split
    · trivial
    · rename_i hn
      rw [if_neg hn] at h0
      have h1 := hG.rel id
      cases hb : lkH H id with
      | cells e l =>
        rw [hb] at h1
        obtain ⟨g, cs, hmi, hg, hl, hone, hrel⟩ := h1
        refine ⟨g, cs, hmi, hg, by simpa using hl, fun x hx => ?_, fun j c a hj ha => ?_⟩
        · obtain ⟨y, hy, rfl⟩ := List.mem_map.1 hx
          exact frz1_one H ids y (hone y hy)
        · simp only [List.getElem?_map, Option.map_eq_some_iff] at ha
          obtain ⟨a0, ha0, rfl⟩ := ha
          exact frz1_rel hG (hrel j c a0 hj ha0)
      | _ => rw [hb] at h0; exact h0
  · rintro k ⟨i, v, hl, hm, hb⟩
    exact hc.owns k ⟨i, v, hlive0 i hl, hm, hb⟩
  · rintro g (hg | ⟨i, v, hi, h1, h2, h3⟩)
    · exact hc.ro g hg
    · exact .inr (hc.owns g ⟨i, v, h1, h2, h3⟩)
  · show RelV m _ w (a.tmps.getD s undef) (lk (frzEnv H ids env) s)
    rw [lk_frzEnv]
    exact frzA_rel hG (hr s)
theorem wk_frz [Tabs] {pn N : Nat} {env : Env} {H : Heap} {nx : Nat} (ids : List Nat) : Wk pn N ⟨env, H, nx⟩ ⟨frzEnv H ids env, deads ids (frzMap H ids H), nx⟩ :=
  fun _ _ _ _ h => rel_frz ids h

end Go.Own

/-
  A region that draws its order and writes: evaluated in the text's order; every two operations that could see each other's work are ordered.
-/
namespace Go.Own

/-- What an operation did in the text's order. -/
structure Rec : Type 1 where
  o : Oper
  v : AV
  touch : List Nat
  wr : List (Nat × AB)
  n0 : Nat
  n1 : Nat

def putE (dst : Option Nat) (v : AV) (env : Env) : Env :=
  match dst with
  | none => env
  | some d => (d, v) :: env

def envR (env : Env) : List Rec → Env
  | [] => env
  | r :: R => putE r.o.dst r.v (envR env R)

def heapR (H : Heap) : List Rec → Heap
  | [] => H
  | r :: R => r.wr ++ heapR H R

def nxR (nx : Nat) : List Rec → Nat
  | [] => nx
  | r :: _ => r.n1

/-- The operation is asked for. -/
def Want (ops : Array Oper) (env : Env) (o : Oper) : Prop :=
  o.guard = none ∨ ∃ j pol oj t, o.guard = some (j, pol) ∧ ops[j]? = some oj ∧ oj.dst = some t ∧ lk env t = .bool pol

/-- It is not. -/
def Skips (ops : Array Oper) (env : Env) (o : Oper) : Prop :=
  ∃ j pol oj t, o.guard = some (j, pol) ∧ ops[j]? = some oj ∧ oj.dst = some t ∧ (lk env t = .bool (!pol) ∨ lk env t = .skip)

def Hist [Tabs] (C : Cx) (ops : Array Oper) (env : Env) (H : Heap) (nx : Nat) : List Rec → Prop
  | [] => True
  | r :: R => Hist C ops env H nx R ∧ ops[R.length]? = some r.o ∧ (∀ d, r.o.dst = some d → d < C.N) ∧ r.n0 = nxR nx R ∧ r.n0 ≤ r.n1 ∧
     ((Want ops (envR env R) r.o ∧ OpSemR C.P r.o (usesOf (rdOp [] (envR env R)) r.o) (heapR H R) r.n0 r.touch (fun r' => r' = ⟨r.v, r.touch, r.wr, r.n1⟩)) ∨
      (Skips ops (envR env R) r.o ∧ r.v = .skip ∧ r.wr = [] ∧ r.n1 = r.n0))

abbrev Sig := List (Oper × List Nat × List Nat)

def idsK : List (Nat × AB) → (List Nat → Prop) → Prop
  | [], k => k []
  | (i, _) :: r, k => idsK r fun l => k (i :: l)

theorem idsK_iff : ∀ {wr : List (Nat × AB)} {k : List Nat → Prop}, idsK wr k ↔ k (wr.map (·.1))
  | [], k => Iff.rfl
  | (i, b) :: r, k => by simp only [idsK, idsK_iff, List.map_cons]

/-- One of two, where the condition is told. -/
def evPickD (rd : Operand → AV) (c a b : Operand) (k : AV → Prop) : Prop :=
  match rd c with
  | .bool cb => (cb = true → k (rd a)) ∧ (cb = false → k (rd b))
  | _ => False

theorem evPickD_sound [Tabs] {P : Program} {rd : Operand → AV} {H : Heap} {nx : Nat} {c x y : Operand} {o : Oper} (ho : o.op = .pick c x y) {k : Res → Prop} (h : evPickD rd c x y fun v => k ⟨v, [], [], nx⟩) :
    ∃ r, OpSemP P o [(c, true, rd c), (x, true, rd x), (y, true, rd y)] H nx r ∧ (r.wr = [] ∧ r.nx = nx) ∧ k r := by
  unfold evPickD at h
  split at h
  · rename_i cb hc
    refine ⟨⟨if cb then rd x else rd y, [], [], nx⟩, opsem_pure fun m S w a H₂ hG ht hus => ?_, ⟨rfl, rfl⟩, ?_⟩
    · have h1 := hus (c, true, rd c) (by simp) rfl
      have h2 := hus (x, true, rd x) (by simp) rfl
      have h3 := hus (y, true, rd y) (by simp) rfl
      simp only [hc] at h1
      have hv := relV_bool h1
      cases cb with
      | true =>
        refine ⟨a.eval x, fun w' _ => ?_, h2⟩
        unfold execOp
        simp [ho, hv, asBool]
      | false =>
        refine ⟨a.eval y, fun w' _ => ?_, h3⟩
        unfold execOp
        simp [ho, hv, asBool]
    · cases cb with
      | true => exact h.1 rfl
      | false => exact h.2 rfl
  · exact h.elim

/-- The operation at a place of a region that draws, pick among them. -/
def evOpD [Tabs] (C : Cx) (rd : Operand → AV) (H : Heap) (nx : Nat) (o : Oper) (k : Res → Prop) : Prop :=
  match o.op with
  | .pick c a b => evPickD rd c a b fun v => k ⟨v, [], [], nx⟩
  | _ => evOp C true none rd H nx o k

/-- The value is written. -/
def putEK (dst : Option Nat) (v : AV) (env : Env) (k : Env → Prop) : Prop :=
  match dst with
  | none => k env
  | some d => forceAV v fun v => k ((d, v) :: env)

theorem putEK_iff {dst : Option Nat} {v : AV} {env : Env} {k : Env → Prop} : putEK dst v env k ↔ k (putE dst v env) := by
  cases dst with
  | none => exact Iff.rfl
  | some d => simp only [putEK, forceAV_iff]; rfl

/-- What guards the operation. -/
def gateK [Tabs] (C : Cx) (all : List Oper) (env : Env) (H : Heap) (nx : Nat) (o : Oper) (next : AV → List Nat → List (Nat × AB) → Nat → Prop) : Prop :=
  match o.guard with
  | none => evOpD C (rdOp [] env) H nx o fun r => match r with
    | ⟨v, touch, wr, nx'⟩ => next v touch wr nx'
  | some (j, pol) => match all[j]? with
    | none => False
    | some oj => match oj.dst with
      | none => False
      | some t => match lk env t with
        | .skip => next .skip [] [] nx
        | .bool b => (b = pol → evOpD C (rdOp [] env) H nx o fun r => match r with
            | ⟨v, touch, wr, nx'⟩ => next v touch wr nx') ∧ (b = !pol → next .skip [] [] nx)
        | _ => False

/-- What guards the operation. -/
def gateP (all : List Oper) (env : Env) (g : Option (Nat × Bool)) (yes no : Prop) : Prop :=
  match g with
  | none => yes
  | some (j, pol) => match all[j]? with
    | none => False
    | some oj => match oj.dst with
      | none => False
      | some t => match lk env t with
        | .skip => no
        | .bool b => (b = pol → yes) ∧ (b = !pol → no)
        | _ => False

theorem gateP_sound {ops : Array Oper} {env : Env} {o : Oper} {yes no : Prop} (h : gateP ops.toList env o.guard yes no) : (Want ops env o ∧ yes) ∨ (Skips ops env o ∧ no) := by
  unfold gateP at h
  split at h
  · rename_i hg
    exact .inl ⟨.inl hg, h⟩
  · rename_i j pol hg
    split at h
    · exact h.elim
    · rename_i oj hj
      have hj' : ops[j]? = some oj := by simpa using hj
      split at h
      · exact h.elim
      · rename_i t ht
        split at h
        · rename_i hl
          exact .inr ⟨⟨j, pol, oj, t, hg, hj', ht, .inr hl⟩, h⟩
        · rename_i b hl
          by_cases e : b = pol
          · subst e
            exact .inl ⟨.inr ⟨j, b, oj, t, hg, hj', ht, hl⟩, h.1 rfl⟩
          · have e' : b = !pol := by cases b <;> cases pol <;> simp_all
            subst e'
            exact .inr ⟨⟨j, pol, oj, t, hg, hj', ht, .inl hl⟩, h.2 rfl⟩
        · exact h.elim

theorem gateK_sound [Tabs] {C : Cx} {ops : Array Oper} {env : Env} {H : Heap} {nx : Nat} {o : Oper} {next : AV → List Nat → List (Nat × AB) → Nat → Prop} (h : gateK C ops.toList env H nx o next) :
    (Want ops env o ∧ evOpD C (rdOp [] env) H nx o fun r => match r with | ⟨v, touch, wr, nx'⟩ => next v touch wr nx') ∨ (Skips ops env o ∧ next .skip [] [] nx) := by
  refine gateP_sound ?_
  unfold gateK at h
  unfold gateP
  exact h

def evOpsD [Tabs] (C : Cx) (all : List Oper) : List Oper → Env → Heap → Nat → Sig → (Sig → Env → Heap → Nat → Prop) → Prop
  | [], env, H, nx, sg, k => k sg env H nx
  | o :: rest, env, H, nx, sg, k => match dstOk C.N o.dst [] with
    | false => False
    | true => gateK C all env H nx o fun v touch wr nx' => idsK wr fun ids => putEK o.dst v env fun env' => pushK wr H fun H' => evOpsD C all rest env' H' nx' ((o, touch, ids) :: sg) k

def looksOf (ops : List Oper) (o : Oper) : List Nat := (match o.guard with
  | none => []
  | some (j, _) => match ops[j]? with
    | some oj => oj.dst.toList
    | none => []) ++ o.op.operands.toList.filterMap fun
  | .tmp t => some t
  | _ => none

def meets (a b : List Nat) : Bool := a.any fun i => b.any fun j => Nat.beq i j

def dstIn (d : Option Nat) (l : List Nat) : Bool :=
  match d with
  | none => false
  | some d => l.any fun j => Nat.beq d j

def dstSame (a b : Option Nat) : Bool :=
  match a, b with
  | some d, some e => Nat.beq d e
  | _, _ => false

def clash (ops : List Oper) (x y : Oper × List Nat × List Nat) : Bool :=
  dstIn x.1.dst (looksOf ops y.1) || dstIn y.1.dst (looksOf ops x.1) || dstSame x.1.dst y.1.dst || meets x.2.2 y.2.1 || meets x.2.2 y.2.2 || meets y.2.2 x.2.1

def maskGo (ms : List Nat) : List Edge → Nat
  | [] => 0
  | e :: r => match Region.binds .any e with
    | true => (2 ^ e.on ||| ms.getD e.on 0) ||| maskGo ms r
    | false => maskGo ms r

def masksF : List Oper → List Nat → List Nat
  | [], ms => ms
  | o :: r, ms => masksF r (ms ++ [maskGo ms o.after.toList])

def pairsB (ops : List Oper) (m : Nat) (x : Oper × List Nat × List Nat) : Sig → Bool
  | [] => true
  | y :: L => (!clash ops y x || Nat.testBit m L.length) && pairsB ops m x L

def edgesB (n : Nat) : List Edge → Bool
  | [] => true
  | e :: r => (!Region.binds .any e || Nat.blt e.on n) && edgesB n r

def ordR (ops : List Oper) (ms : List Nat) : Sig → Bool
  | [] => true
  | x :: L => edgesB L.length x.1.after.toList && pairsB ops (ms.getD L.length 0) x L && ordR ops ms L

def ordB (ops : Array Oper) (L : Sig) : Bool := ordR ops.toList (masksF ops.toList []) L

/-- The executed ones are closed under what must come before. -/
def Closed (ops : Array Oper) (E : Nat → Bool) : Prop := ∀ (j : Nat) (o : Oper), ops[j]? = some o → E j = true → ∀ e ∈ o.after, Region.binds .any e = true → E e.on = true

theorem maskGo_spec {ms : List Nat} {i : Nat} : ∀ {l : List Edge}, (maskGo ms l).testBit i = true → ∃ e ∈ l, Region.binds .any e = true ∧ (e.on = i ∨ (ms.getD e.on 0).testBit i = true)
  | [], h => by simp [maskGo] at h
  | e :: l, h => by
    unfold maskGo at h
    split at h
    · rename_i hb
      simp only [Nat.testBit_or, Bool.or_eq_true] at h
      rcases h with (h | h) | h
      · refine ⟨e, by simp, hb, .inl ?_⟩
        rw [Nat.testBit_two_pow] at h
        simpa using h
      · exact ⟨e, by simp, hb, .inr h⟩
      · obtain ⟨e', h1, h2⟩ := maskGo_spec h
        exact ⟨e', by simp [h1], h2⟩
    · obtain ⟨e', h1, h2⟩ := maskGo_spec h
      exact ⟨e', by simp [h1], h2⟩

theorem masksF_spec {ops : Array Oper} {E : Nat → Bool} (hE : Closed ops E) : ∀ (l : List Oper) (ms : List Nat), (∀ k, l[k]? = ops[ms.length + k]?) →
    (∀ j i, (ms.getD j 0).testBit i = true → (∀ o, ops[j]? = some o → ∀ e ∈ o.after, Region.binds .any e = true → E e.on = true) → E i = true) →
    ∀ j i, ((masksF l ms).getD j 0).testBit i = true → (∀ o, ops[j]? = some o → ∀ e ∈ o.after, Region.binds .any e = true → E e.on = true) → E i = true
  | [], ms, hl, h, j, i => h j i
  | o :: l, ms, hl, h, j, i => by
    refine masksF_spec hE l _ (fun k => ?_) (fun j i hb hp => ?_) j i
    · have := hl (k + 1)
      rw [List.getElem?_cons_succ] at this
      rw [this]
      simp [Nat.add_assoc, Nat.add_comm 1 k]
    · by_cases hj : j < ms.length
      · have : (ms ++ [maskGo ms o.after.toList]).getD j 0 = ms.getD j 0 := by simp [List.getD, List.getElem?_append_left hj]
        rw [this] at hb
        exact h j i hb hp
      · by_cases hj2 : j = ms.length
        · subst hj2
          have : (ms ++ [maskGo ms o.after.toList]).getD ms.length 0 = maskGo ms o.after.toList := by simp [List.getD]
          rw [this] at hb
          obtain ⟨e, he, hbe, hor⟩ := maskGo_spec hb
          have ho : ops[ms.length]? = some o := by have := hl 0; simpa using this.symm
          have hon := hp o ho e (by simpa using he) hbe
          rcases hor with h1 | h1
          · rw [← h1]; exact hon
          · exact h e.on i h1 fun o' ho' e' he' hb' => hE e.on o' ho' hon e' he' hb'
        · have : (ms ++ [maskGo ms o.after.toList]).getD j 0 = 0 := by
            rw [List.getD, List.getElem?_eq_none (by simp; omega)]
            rfl
          rw [this] at hb
          simp at hb

/-! ### Looking through the executed ones -/

def lay {X : Type _} (f : Rec → Option X) (x0 : X) (E : Nat → Bool) : List Rec → X
  | [] => x0
  | r :: R => match E R.length, f r with
    | true, some x => x
    | _, _ => lay f x0 E R

theorem lay_cons {X : Type _} {f : Rec → Option X} {x0 : X} {E : Nat → Bool} {r : Rec} {R : List Rec} : lay f x0 E (r :: R) = match E R.length with | true => (f r).getD (lay f x0 E R) | false => lay f x0 E R := by
  have e : lay f x0 E (r :: R) = (match E R.length, f r with | true, some x => x | _, _ => lay f x0 E R) := rfl
  rw [e]
  cases E R.length <;> cases f r <;> rfl

theorem lay_skip {X : Type _} {f : Rec → Option X} {x0 : X} {E : Nat → Bool} {r : Rec} {R : List Rec} (h : f r ≠ none → E R.length = false) : lay f x0 E (r :: R) = lay f x0 E R := by
  have e : lay f x0 E (r :: R) = (match E R.length, f r with | true, some x => x | _, _ => lay f x0 E R) := rfl
  rw [e]
  cases hf : f r with
  | none => cases E R.length <;> rfl
  | some x => rw [h (by rw [hf]; simp)]

theorem lay_cut {X : Type _} {f : Rec → Option X} {x0 : X} {E : Nat → Bool} {T : List Rec} : ∀ {R : List Rec}, T <:+ R → (∀ r B, (r :: B) <:+ R → T.length ≤ B.length → f r ≠ none → E B.length = false) → lay f x0 E R = lay f x0 E T
  | [], hs, h => by rw [List.suffix_nil.1 hs]
  | x :: R, hs, h => by
    rcases List.suffix_cons_iff.1 hs with rfl | hs'
    · rfl
    · rw [lay_skip fun hf => h x R (List.suffix_refl _) hs'.length_le hf]
      exact lay_cut hs' fun r B hrB => h r B (hrB.trans (List.suffix_cons _ _))

theorem lay_congr {X : Type _} {f : Rec → Option X} {x0 : X} {E E' : Nat → Bool} : ∀ {R : List Rec}, (∀ r B, (r :: B) <:+ R → f r ≠ none → E B.length = E' B.length) → lay f x0 E R = lay f x0 E' R
  | [], h => rfl
  | x :: R, h => by
    have ih : lay f x0 E R = lay f x0 E' R := lay_congr fun r B hrB => h r B (hrB.trans (List.suffix_cons _ _))
    show (match E R.length, f x with | true, some x => x | _, _ => lay f x0 E R) = (match E' R.length, f x with | true, some x => x | _, _ => lay f x0 E' R)
    rw [ih]
    cases hf : f x with
    | none => cases E R.length <;> cases E' R.length <;> rfl
    | some y => rw [h x R (List.suffix_refl _) (by rw [hf]; simp)]

def fE (s : Nat) (r : Rec) : Option AV :=
  match r.o.dst with
  | none => none
  | some d => if d = s then some r.v else none

def findW : List (Nat × AB) → Nat → Option AB
  | [], _ => none
  | (i, b) :: r, j => if i = j then some b else findW r j

def fH (id : Nat) (r : Rec) : Option AB := findW r.wr id

theorem lkH_append (wr : List (Nat × AB)) (H : Heap) (id : Nat) : lkH (wr ++ H) id = (findW wr id).getD (lkH H id) := by
  induction wr with
  | nil => rfl
  | cons p wr ih =>
    obtain ⟨i, b⟩ := p
    rw [List.cons_append, lkH_cons]
    unfold findW
    split
    · rfl
    · exact ih

theorem findW_mem {wr : List (Nat × AB)} {id : Nat} (h : findW wr id ≠ none) : id ∈ wr.map (·.1) := by
  induction wr with
  | nil => exact (h rfl).elim
  | cons p wr ih =>
    obtain ⟨i, b⟩ := p
    unfold findW at h
    split at h
    · rename_i e; simp [e]
    · simp [ih h]

theorem lk_envR (env : Env) (s : Nat) : ∀ (R : List Rec), lk (envR env R) s = lay (fE s) (lk env s) (fun _ => true) R
  | [] => rfl
  | r :: R => by
    rw [lay_cons, ← lk_envR env s R]
    show lk (putE r.o.dst r.v (envR env R)) s = (fE s r).getD (lk (envR env R) s)
    unfold putE fE
    cases hd : r.o.dst with
    | none => rfl
    | some d =>
      simp only [lk_cons]
      split <;> rfl

theorem lkH_heapR (H : Heap) (id : Nat) : ∀ (R : List Rec), lkH (heapR H R) id = lay (fH id) (lkH H id) (fun _ => true) R
  | [] => rfl
  | r :: R => by
    rw [lay_cons, ← lkH_heapR H id R]
    exact lkH_append r.wr (heapR H R) id

def sigOf (r : Rec) : Oper × List Nat × List Nat := (r.o, r.touch, r.wr.map (·.1))

theorem pairsB_spec {ops : List Oper} {m : Nat} {x : Oper × List Nat × List Nat} : ∀ {R : List Rec}, pairsB ops m x (R.map sigOf) = true → ∀ r B, (r :: B) <:+ R → clash ops (sigOf r) x = true → Nat.testBit m B.length = true
  | [], _, r, B, hs, _ => by simp at hs
  | y :: R, h, r, B, hs, hc => by
    simp only [List.map_cons, pairsB, Bool.and_eq_true, Bool.or_eq_true, List.length_map] at h
    rcases List.suffix_cons_iff.1 hs with e | hs'
    · cases e
      rcases h.1 with h1 | h1
      · rw [hc] at h1; cases h1
      · exact h1
    · exact pairsB_spec h.2 r B hs' hc

theorem ordR_spec {ops : List Oper} {ms : List Nat} : ∀ {R : List Rec}, ordR ops ms (R.map sigOf) = true → ∀ r B, (r :: B) <:+ R → edgesB B.length r.o.after.toList = true ∧ pairsB ops (ms.getD B.length 0) (sigOf r) (B.map sigOf) = true
  | [], _, r, B, hs => by simp at hs
  | y :: R, h, r, B, hs => by
    simp only [List.map_cons, ordR, Bool.and_eq_true, List.length_map] at h
    rcases List.suffix_cons_iff.1 hs with e | hs'
    · cases e
      exact h.1
    · exact ordR_spec h.2 r B hs'

theorem edgesB_spec {n : Nat} : ∀ {l : List Edge}, edgesB n l = true → ∀ e ∈ l, Region.binds .any e = true → e.on < n
  | [], _, e, he, _ => by simp at he
  | x :: l, h, e, he, hb => by
    simp only [edgesB, Bool.and_eq_true, Bool.or_eq_true] at h
    rcases List.mem_cons.1 he with rfl | he
    · rcases h.1 with h1 | h1
      · rw [hb] at h1; cases h1
      · simpa [Nat.blt_eq] using h1
    · exact edgesB_spec h.2 e he hb

end Go.Own

/-
  A region that draws its order and writes: sound.
-/
namespace Go.Own

theorem any_beq {d : Nat} {l : List Nat} (h : d ∈ l) : (l.any fun j => Nat.beq d j) = true := List.any_eq_true.2 ⟨d, h, by simp⟩

theorem dstIn_true {o : Option Nat} {d : Nat} {l : List Nat} (ho : o = some d) (h : d ∈ l) : dstIn o l = true := by subst ho; exact any_beq h

theorem meets_true {a b : List Nat} {i : Nat} (h : i ∈ a) (h' : i ∈ b) : meets a b = true := List.any_eq_true.2 ⟨i, h, any_beq h'⟩

theorem Hist.suffix [Tabs] {C : Cx} {ops : Array Oper} {env : Env} {H : Heap} {nx : Nat} {T : List Rec} : ∀ {R : List Rec}, Hist C ops env H nx R → T <:+ R → Hist C ops env H nx T
  | [], h, hs => by rw [List.suffix_nil.1 hs]; trivial
  | x :: R, h, hs => by
    rcases List.suffix_cons_iff.1 hs with rfl | hs'
    · exact h
    · exact Hist.suffix h.1 hs'

theorem Hist.nx_le [Tabs] {C : Cx} {ops : Array Oper} {env : Env} {H : Heap} {nx : Nat} : ∀ {R : List Rec}, Hist C ops env H nx R → nx ≤ nxR nx R
  | [], h => Nat.le_refl _
  | x :: R, h => by
    have := Hist.nx_le h.1
    obtain ⟨_, _, _, h1, h2, _⟩ := h
    show nx ≤ x.n1
    omega

theorem Hist.n1_le [Tabs] {C : Cx} {ops : Array Oper} {env : Env} {H : Heap} {nx : Nat} {r : Rec} {B : List Rec} : ∀ {R : List Rec}, Hist C ops env H nx R → (r :: B) <:+ R → r.n1 ≤ nxR nx R
  | [], h, hs => by simp at hs
  | x :: R, h, hs => by
    rcases List.suffix_cons_iff.1 hs with e | hs'
    · cases e; exact Nat.le_refl _
    · have := Hist.n1_le h.1 hs'
      obtain ⟨_, _, _, h1, h2, _⟩ := h
      show r.n1 ≤ x.n1
      omega

structure InvD [Tabs] (C : Cx) (F : Fr) (env : Env) (H : Heap) (nx : Nat) (R : List Rec) (E : Nat → Bool) (m : Ids) (S : Blocks) (H₂ : Heap) (a : Act) (w : World) : Prop where
  good : Good m S w H₂
  far : Far F.F0 F.w0 w
  owns : ∀ k, own m H₂ k → F.F0 k ∨ F.w0.heap.size ≤ k
  ro : ∀ g, S g → F.S0 g ∨ F.F0 g ∨ F.w0.heap.size ≤ g
  ro0 : ∀ g, F.S0 g → S g
  pins : ∀ i v, F.pin i = some v → m i = some v
  free : ∀ i, m i ≠ none → i < nx ∨ ∃ r B, (r :: B) <:+ R ∧ E B.length = true ∧ r.n0 ≤ i ∧ i < r.n1
  heap : ∀ id, lkH H₂ id = lay (fH id) (lkH H id) E R
  size : a.tmps.size = C.N
  defers : a.defers = []
  tmps : ∀ s, RelV m S w (a.tmps.getD s undef) (lay (fE s) (lk env s) E R)

def Preds (E : Nat → Bool) (o : Oper) : Prop := ∀ e ∈ o.after, Region.binds .any e = true → E e.on = true

theorem ordered [Tabs] {C : Cx} {ops : Array Oper} {env : Env} {H : Heap} {nx : Nat} {R : List Rec} {E : Nat → Bool} (hH : Hist C ops env H nx R) (hO : ordB ops (R.map sigOf) = true) (hE : Closed ops E) {r r' : Rec} {B B' : List Rec}
    (hr : (r :: B) <:+ R) (hr' : (r' :: B') <:+ B) (hc : clash ops.toList (sigOf r') (sigOf r) = true) (hp : Preds E r.o) : E B'.length = true := by
  have h1 := pairsB_spec (ordR_spec hO r B hr).2 r' B' hr' hc
  have hidx : ops[B.length]? = some r.o := (hH.suffix hr).2.1
  refine masksF_spec hE ops.toList [] (fun k => by simp) (fun j i h => by simp at h) B.length B'.length h1 (fun o ho => ?_)
  rw [hidx] at ho
  cases ho
  exact hp

theorem suffix_same {r r' : Rec} {B B' R : List Rec} (h : (r :: B) <:+ R) (h' : (r' :: B') <:+ R) (hl : B'.length = B.length) : r' = r ∧ B' = B := by
  have := (List.suffix_of_suffix_length_le h' h (by simp [hl])).eq_of_length (by simp [hl])
  cases this
  exact ⟨rfl, rfl⟩

theorem suffix_tail {r : Rec} {B R : List Rec} (h : (r :: B) <:+ R) : B <:+ R := (List.suffix_cons r B).trans h

structure At [Tabs] (C : Cx) (ops : Array Oper) (env : Env) (H : Heap) (nx : Nat) (R : List Rec) (E : Nat → Bool) (r : Rec) (B : List Rec) : Prop where
  hist : Hist C ops env H nx R
  ord : ordB ops (R.map sigOf) = true
  clo : Closed ops E
  here : (r :: B) <:+ R
  not : E B.length = false
  preds : Preds E r.o

section
variable {C : Cx} {ops : Array Oper} {env : Env} {H : Heap} {nx : Nat} {R : List Rec} {E : Nat → Bool} {r : Rec} {B : List Rec}

theorem At.later [Tabs] (h : At C ops env H nx R E r B) {r' : Rec} {B' : List Rec} (h' : (r' :: B') <:+ R) (hl : B.length < B'.length) (hc : clash ops.toList (sigOf r) (sigOf r') = true) : E B'.length = false := by
  cases hb : E B'.length with
  | false => rfl
  | true =>
    have hs : (r :: B) <:+ B' := List.suffix_of_suffix_length_le h.here (suffix_tail h') (by simp; omega)
    have hidx : ops[B'.length]? = some r'.o := (h.hist.suffix h').2.1
    have := ordered h.hist h.ord h.clo h' hs hc (h.clo _ _ hidx hb)
    rw [h.not] at this
    cases this

theorem At.read [Tabs] {X : Type _} (h : At C ops env H nx R E r B) {f : Rec → Option X} {x0 : X} (hf : ∀ r', f r' ≠ none → clash ops.toList (sigOf r) (sigOf r') = true ∧ clash ops.toList (sigOf r') (sigOf r) = true) : lay f x0 E R = lay f x0 (fun _ => true) B := by
  rw [lay_cut (suffix_tail h.here) fun r' B' h' hl hn => ?_]
  · exact lay_congr fun r' B' h' hn => ordered h.hist h.ord h.clo h.here h' (hf r' hn).2 h.preds
  · by_cases e : B'.length = B.length
    · rw [e]; exact h.not
    · exact h.later h' (by omega) (hf r' hn).1

def setE (E : Nat → Bool) (j : Nat) : Nat → Bool := fun i => if i = j then true else E i

theorem At.write [Tabs] {X : Type _} (h : At C ops env H nx R E r B) {f : Rec → Option X} {x0 x : X} (hf : ∀ r', f r' ≠ none → clash ops.toList (sigOf r) (sigOf r') = true) (hx : f r = some x) : lay f x0 (setE E B.length) R = x := by
  rw [lay_cut h.here fun r' B' h' hl hn => ?_, lay_cons]
  · simp [setE, hx]
  · have hl' : B.length < B'.length := by simp at hl; omega
    have : B'.length ≠ B.length := by omega
    simp only [setE, this, if_false]
    exact h.later h' hl' (hf r' hn)

theorem At.same [Tabs] {X : Type _} (h : At C ops env H nx R E r B) {f : Rec → Option X} {x0 : X} (hx : f r = none) : lay f x0 (setE E B.length) R = lay f x0 E R := by
  refine lay_congr fun r' B' h' hn => ?_
  by_cases e : B'.length = B.length
  · obtain ⟨rfl, _⟩ := suffix_same h.here h' e
    exact (hn hx).elim
  · simp [setE, e]

theorem fE_dst {s : Nat} {r : Rec} (h : fE s r ≠ none) : r.o.dst = some s := by
  unfold fE at h
  split at h
  · exact (h rfl).elim
  · split at h
    · rename_i hd e; rw [hd, e]
    · exact (h rfl).elim

theorem clash_read {s : Nat} {r r' : Rec} (hs : s ∈ looksOf ops.toList r.o) (h : r'.o.dst = some s) : clash ops.toList (sigOf r) (sigOf r') = true ∧ clash ops.toList (sigOf r') (sigOf r) = true := by
  have h1 := dstIn_true h hs
  simp [clash, sigOf, h1]

theorem clash_touch {i : Nat} {r r' : Rec} (hs : i ∈ r.touch) (h : fH i r' ≠ none) : clash ops.toList (sigOf r) (sigOf r') = true ∧ clash ops.toList (sigOf r') (sigOf r) = true := by
  have h1 := meets_true (findW_mem h) hs
  simp [clash, sigOf, h1]

theorem clash_wr {i : Nat} {r r' : Rec} (hs : fH i r ≠ none) (h : fH i r' ≠ none) : clash ops.toList (sigOf r) (sigOf r') = true := by
  have h1 := meets_true (findW_mem hs) (findW_mem h)
  simp [clash, sigOf, h1]

theorem clash_dst {s : Nat} {r r' : Rec} (hs : r.o.dst = some s) (h : r'.o.dst = some s) : clash ops.toList (sigOf r) (sigOf r') = true := by
  have : dstSame (some s) (some s) = true := by simp [dstSame]
  simp [clash, sigOf, hs, h, this]

theorem looks_mem {ops : List Oper} {o : Oper} {x : Operand} {s : Nat} (hx : x ∈ o.op.operands.toList) (he : x = .tmp s) : s ∈ looksOf ops o := by
  subst he
  exact List.mem_append_right _ (List.mem_filterMap.2 ⟨.tmp s, hx, rfl⟩)

theorem looks_guard {ops : List Oper} {o oj : Oper} {j t : Nat} {pol : Bool} (hg : o.guard = some (j, pol)) (hj : ops[j]? = some oj) (ht : oj.dst = some t) : t ∈ looksOf ops o := by
  refine List.mem_append_left _ ?_
  simp [hg, hj, ht]

/-- One operation, whenever its turn comes. -/
theorem stepD [Tabs] {F : Fr} {m : Ids} {S : Blocks} {H₂ : Heap} {a : Act} {w : World} {K : Act → World → Prop} {Q : Exit → Act → World → Prop} (h : At C ops env H nx R E r B) (hI : InvD C F env H nx R E m S H₂ a w)
    (hK : ∀ m' S' H' a' w', InvD C F env H nx R (setE E B.length) m' S' H' a' w' → K a' w') :
    (Region.wanted r.o (yielded ops a.tmps) = true ∧ r.o.wp C.P a w K Q) ∨ (Region.wanted r.o (yielded ops a.tmps) = false ∧ K (a.put r.o.dst undef) w) := by
  obtain ⟨hHB, hidx, hdst, hn0, hn01, hsem⟩ := h.hist.suffix h.here
  have slot : ∀ t, t ∈ looksOf ops.toList r.o → RelV m S w (a.tmps.getD t undef) (lk (envR env B) t) := by
    intro t ht
    have := hI.tmps t
    rwa [h.read fun r' hn => clash_read ht (fE_dst hn), ← lk_envR] at this
  have gate : ∀ {j : Nat} {pol : Bool} {oj : Oper} {t : Nat}, r.o.guard = some (j, pol) → ops[j]? = some oj → oj.dst = some t → Region.wanted r.o (yielded ops a.tmps) = (yieldT a.tmps t == some pol) := by
    intro j pol oj t hg hj ht
    have hy : yielded ops a.tmps j = yieldT a.tmps t := by
      unfold yielded yieldT
      rw [hj]
      simp [ht]
      rfl
    simp only [Region.wanted, hg, hy]
  rcases hsem with ⟨hw, hsem⟩ | ⟨hs, hv, hwr, hn⟩
  rotate_left
  · right
    have hwf : Region.wanted r.o (yielded ops a.tmps) = false := by
      obtain ⟨j, pol, oj, t, hg, hj, ht, hl⟩ := hs
      rw [gate hg hj ht]
      have hsl := slot t (looks_guard hg (by simpa using hj) ht)
      rcases hl with hl | hl
      · rw [hl] at hsl
        rw [yieldT_eq (relV_bool hsl)]
        cases pol <;> rfl
      · rw [hl] at hsl
        have : a.tmps.getD t undef = undef := by
          generalize a.tmps.getD t undef = v at hsl
          cases hsl with
          | t _ _ h => cases h; rfl
        rw [yieldT_undef this]
        rfl
    refine ⟨hwf, hK m S H₂ _ w ⟨hI.good, hI.far, hI.owns, hI.ro, hI.ro0, hI.pins, fun i hi => ?_, fun id => ?_, ?_, ?_, fun s => ?_⟩⟩
    · rcases hI.free i hi with h1 | ⟨r', B', h', hE', h1⟩
      · exact .inl h1
      · exact .inr ⟨r', B', h', by simp [setE, hE'], h1⟩
    · rw [h.same (f := fH id) (by simp [fH, hwr, findW])]
      exact hI.heap id
    · cases hd : r.o.dst <;> simp [Act.put, hI.size]
    · cases hd : r.o.dst <;> simp [Act.put, hI.defers]
    · have old := hI.tmps s
      cases hd : r.o.dst with
      | none =>
        rw [h.same (f := fE s) (by simp [fE, hd])]
        exact old
      | some d =>
        have hlt : d < a.tmps.size := by rw [hI.size]; exact hdst d hd
        show RelV m S w ((a.tmps.setIfInBounds d undef).getD s undef) _
        rw [getD_set hlt]
        by_cases e : d = s
        · subst e
          rw [if_pos rfl, h.write (f := fE d) (x := r.v) (fun r' hn => clash_dst hd (fE_dst hn)) (by simp [fE, hd]), hv]
          exact .t _ _ .skip
        · rw [if_neg e, h.same (f := fE s) (by simp [fE, hd, e])]
          exact old
  left
  refine ⟨?_, ?_⟩
  · rcases hw with hg | ⟨j, pol, oj, t, hg, hj, ht, hl⟩
    · simp [Region.wanted, hg]
    · rw [gate hg hj ht]
      have hsl := slot t (looks_guard hg (by simpa using hj) ht)
      rw [hl] at hsl
      rw [yieldT_eq (relV_bool hsl)]
      simp
  refine hsem m S w a H₂ K Q hI.good (fun id hid => ?_) (fun i hi hlt => ?_) (fun u hu _ => ?_) ?_
  · rw [hI.heap id, lkH_heapR]
    exact h.read fun r' hn => clash_touch hid hn
  · obtain ⟨r', rfl, hlt⟩ := hlt
    cases hm : m i with
    | none => rfl
    | some v =>
      rcases hI.free i (by rw [hm]; simp) with h1 | ⟨r', B', h', hE', h1, h2⟩
      · have := hHB.nx_le
        omega
      · have hlt' : i < r.n1 := hlt
        by_cases e : B'.length = B.length
        · rw [e, h.not] at hE'; cases hE'
        · by_cases hl : B'.length < B.length
          · have hs : (r' :: B') <:+ B := List.suffix_of_suffix_length_le h' (suffix_tail h.here) (by simp; omega)
            have := hHB.n1_le hs
            omega
          · have hs : (r :: B) <:+ B' := List.suffix_of_suffix_length_le h.here (suffix_tail h') (by simp; omega)
            obtain ⟨hH', _, _, hn0', _⟩ := h.hist.suffix h'
            have := hH'.n1_le hs
            omega
  · obtain ⟨x, hx, rfl⟩ := List.mem_map.1 hu
    cases x with
    | tmp s =>
      have := hI.tmps s
      rw [h.read fun r' hn => clash_read (looks_mem hx rfl) (fE_dst hn), ← lk_envR] at this
      exact this
    | const v => exact .t _ _ (relT_avOf S w v)
    | global g => exact .t _ _ (.undef _)
    | func f => exact .t _ _ (.fn _ _ _ _ _ rfl rfl (fun j c x hj => by simp at hj) (fun j c x hj => by simp at hj))
  · rintro r' rfl v m' S' w' hX hV
    refine hK m' S' _ _ w' ⟨hX.good, ?_, fun k hk => ?_, fun g hg => ?_, fun g hg => hX.ros g (hI.ro0 g hg), fun i v hi => hX.ids i v (hI.pins i v hi), fun i hi => ?_, fun id => ?_, ?_, ?_, fun s => ?_⟩
    · refine hI.far.trans hX.far fun i hi ho => ?_
      rcases hI.owns i ho with h | h
      · exact h
      · omega
    · rcases hX.owns k hk with h1 | h1
      · exact hI.owns k h1
      · exact .inr (Nat.le_trans hI.far.size h1)
    · rcases hX.fresh g hg with h1 | h1 | h1
      · exact hI.ro g h1
      · exact .inr (hI.owns g h1)
      · exact .inr (.inr (Nat.le_trans hI.far.size h1))
    · by_cases hr : r.n0 ≤ i ∧ i < r.n1
      · exact .inr ⟨r, B, h.here, by simp [setE], hr⟩
      · rw [hX.same i hr] at hi
        rcases hI.free i hi with h1 | ⟨r', B', h', hE', h1⟩
        · exact .inl h1
        · exact .inr ⟨r', B', h', by simp [setE, hE'], h1⟩
    · rw [lkH_append]
      cases hf : findW r.wr id with
      | none =>
        rw [h.same (f := fH id) hf]
        exact hI.heap id
      | some b =>
        rw [h.write (f := fH id) (fun r' hn => clash_wr (by rw [show fH id r = _ from hf]; simp) hn) hf]
        rfl
    · cases hd : r.o.dst <;> simp [Act.put, hI.size]
    · cases hd : r.o.dst <;> simp [Act.put, hI.defers]
    · have old : RelV m' S' w' (a.tmps.getD s undef) (lay (fE s) (lk env s) E R) := hX.relV hI.good (hI.tmps s)
      cases hd : r.o.dst with
      | none =>
        rw [h.same (f := fE s) (by simp [fE, hd])]
        exact old
      | some d =>
        have hlt : d < a.tmps.size := by rw [hI.size]; exact hdst d hd
        show RelV m' S' w' ((a.tmps.setIfInBounds d v).getD s undef) _
        rw [getD_set hlt]
        by_cases e : d = s
        · subst e
          rw [if_pos rfl, h.write (f := fE d) (x := r.v) (fun r' hn => clash_dst hd (fE_dst hn)) (by simp [fE, hd])]
          exact hV
        · rw [if_neg e, h.same (f := fE s) (by simp [fE, hd, e])]
          exact old

end

end Go.Own

/-
  A region that draws its order and writes: as a step of code.
-/
namespace Go.Own

theorem evOpD_sound [Tabs] {C : Cx} (hT : TabOk C.P C.T) {rd : Operand → AV} {H : Heap} {nx : Nat} {o : Oper} {k : Res → Prop} (h : evOpD C rd H nx o k) : Shown C.P true none rd H nx o k := by
  unfold evOpD at h
  split at h
  · rename_i c x y hop
    exact shown_pure' (us := [(c, true, rd c), (x, true, rd x), (y, true, rd y)]) (uses_all (l := [c, x, y]) (by simp [hop, Op.operands])) (evPickD_sound hop h)
  · exact evOp_sound hT h

theorem evOpsD_sound [Tabs] {C : Cx} (hT : TabOk C.P C.T) {ops : Array Oper} {env0 : Env} {H0 : Heap} {nx0 : Nat} {k : Sig → Env → Heap → Nat → Prop} : ∀ (rest : List Oper) (R : List Rec), Hist C ops env0 H0 nx0 R → (∀ j, rest[j]? = ops[R.length + j]?) →
    evOpsD C ops.toList rest (envR env0 R) (heapR H0 R) (nxR nx0 R) (R.map sigOf) k →
    ∃ R', Hist C ops env0 H0 nx0 R' ∧ R'.length = R.length + rest.length ∧ k (R'.map sigOf) (envR env0 R') (heapR H0 R') (nxR nx0 R')
  | [], R, hH, _, h => ⟨R, hH, rfl, h⟩
  | o :: rest, R, hH, hl, h => by
    unfold evOpsD at h
    split at h
    · exact h.elim
    · rename_i hd
      have hidx : ops[R.length]? = some o := by have := hl 0; simpa using this.symm
      have hdst : ∀ d, o.dst = some d → d < C.N := by
        intro d hd'
        simp only [dstOk, hd', Bool.and_eq_true] at hd
        simpa [Nat.blt_eq] using hd.1
      rcases gateK_sound h with ⟨hw, h⟩ | ⟨hsk, h⟩
      · obtain ⟨touch, Rr, h1, _, h3, h4⟩ := evOpD_sound hT h
        obtain ⟨r, hr, ht⟩ := h3 rfl
        obtain ⟨hn, hk⟩ := h4 r ((hr r).2 rfl)
        obtain ⟨v, touch', wr, n1⟩ := r
        simp only at hk ht
        subst ht
        rw [idsK_iff] at hk
        have hRr : Rr = fun r' => r' = ⟨v, touch', wr, n1⟩ := funext fun r' => propext (hr r')
        subst hRr
        have hsem := h1 trivial
        refine (evOpsD_sound hT rest (⟨o, v, touch', wr, nxR nx0 R, n1⟩ :: R) ⟨hH, hidx, hdst, rfl, hn, .inl ⟨hw, hsem⟩⟩ (fun j => ?_) ?_).imp fun R' h => ⟨h.1, by have := h.2.1; simp at this ⊢; omega, h.2.2⟩
        · have := hl (j + 1)
          rw [List.getElem?_cons_succ] at this
          rw [this]
          simp [Nat.add_assoc, Nat.add_comm 1 j]
        · exact pushK_iff.1 (putEK_iff.1 hk)
      · refine (evOpsD_sound hT rest (⟨o, .skip, [], [], nxR nx0 R, nxR nx0 R⟩ :: R) ⟨hH, hidx, hdst, rfl, Nat.le_refl _, .inr ⟨hsk, rfl, rfl, rfl⟩⟩ (fun j => ?_) ?_).imp fun R' h => ⟨h.1, by have := h.2.1; simp at this ⊢; omega, h.2.2⟩
        · have := hl (j + 1)
          rw [List.getElem?_cons_succ] at this
          rw [this]
          simp [Nat.add_assoc, Nat.add_comm 1 j]
        · exact pushK_iff.1 (putEK_iff.1 (idsK_iff.1 h))

theorem nth_suffix {R : List Rec} {j : Nat} (h : j < R.length) : ∃ r B, (r :: B) <:+ R ∧ B.length = j := by
  have hs := List.drop_suffix (R.length - 1 - j) R
  cases hd : R.drop (R.length - 1 - j) with
  | nil =>
    have := congrArg List.length hd
    simp at this
    omega
  | cons r B =>
    rw [hd] at hs
    refine ⟨r, B, hs, ?_⟩
    have := congrArg List.length hd
    simp at this
    omega

theorem setE_eq {listed : Array Bool} {j : Nat} (h : j < listed.size) : (fun i => (listed.setIfInBounds j true).getD i false) = setE (fun i => listed.getD i false) j := by
  funext i
  unfold setE
  by_cases e : i = j
  · subst e; simp [h]
  · rw [if_neg e, getD_set_ne false (fun h => e h.symm)]

theorem closed_set {ops : Array Oper} {E : Nat → Bool} {j : Nat} {o : Oper} (h : Closed ops E) (ho : ops[j]? = some o) (hp : Preds E o) : Closed ops (setE E j) := by
  intro i o' ho' hi e he hb
  have : E e.on = true := by
    by_cases e' : i = j
    · subst e'
      rw [ho] at ho'
      cases ho'
      exact hp e he hb
    · simp only [setE, e', if_false] at hi
      exact h i o' ho' hi e he hb
  simp [setE, this]

theorem drawLoop [Tabs] {C : Cx} {F : Fr} {ops : Array Oper} {env : Env} {H : Heap} {nx : Nat} {R : List Rec} (hH : Hist C ops env H nx R) (hO : ordB ops (R.map sigOf) = true) (hlen : R.length = ops.size) {Q : Exit → Act → World → Prop}
    (hQ : ∀ (E : Nat → Bool) m S H₂ a w, (∀ j, j < ops.size → E j = true) → InvD C F env H nx R E m S H₂ a w → Q .normal a w) :
    ∀ (fuel : Nat) (listed : Array Bool) m S H₂ a w, listed.size = ops.size → listed.toList.count false = fuel → Closed ops (fun i => listed.getD i false) → InvD C F env H nx R (fun i => listed.getD i false) m S H₂ a w →
      wpAny C.P .any ops Q fuel listed a w := by
  have done : ∀ (listed : Array Bool) m S H₂ a w, listed.size = ops.size → InvD C F env H nx R (fun i => listed.getD i false) m S H₂ a w → Region.ready .any ops listed = [] → Q .normal a w := by
    intro listed m S H₂ a w hs hI h0
    refine hQ _ m S H₂ a w (fun j => ?_) hI
    induction j using Nat.strongRecOn with
    | _ j ih =>
      intro hj
      cases hb : listed.getD j false with
      | true => rfl
      | false =>
        exfalso
        obtain ⟨r, B, hr, hB⟩ := nth_suffix (R := R) (j := j) (by omega)
        obtain ⟨_, hidx, _⟩ := hH.suffix hr
        have hed := edgesB_spec (ordR_spec hO r B hr).1
        have : j ∈ Region.ready .any ops listed := by
          rw [mem_ready]
          refine ⟨?_, r.o, by rw [← hB]; exact hidx, fun e he hbe => ?_⟩
          · have hlt : j < listed.size := by omega
            simp [Array.getD, hlt] at hb ⊢
            exact hb
          · have hlt := hed e (by simpa using he) hbe
            exact ih e.on (by omega) (by omega)
        rw [h0] at this
        simp at this
  intro fuel
  induction fuel with
  | zero =>
    intro listed m S H₂ a w hs hc hcl hI
    have h0 : Region.ready .any ops listed = [] := by
      apply List.eq_nil_iff_forall_not_mem.2
      intro j hj
      obtain ⟨h1, o, ho, _⟩ := mem_ready.1 hj
      have hlt : j < listed.size := by rw [hs]; exact (Array.getElem?_eq_some_iff.1 ho).1
      simp [Array.getD, hlt] at h1
      have : false ∈ listed.toList := by rw [← h1]; simp
      have := List.count_pos_iff.2 this
      omega
    exact ⟨h0, done listed m S H₂ a w hs hI h0⟩
  | succ fuel ih =>
    intro listed m S H₂ a w hs hc hcl hI
    refine ⟨fun h0 => done listed m S H₂ a w hs hI h0, fun j hj => ?_⟩
    obtain ⟨h1, o, ho, hpre⟩ := mem_ready.1 hj
    have hlt : j < ops.size := (Array.getElem?_eq_some_iff.1 ho).1
    have hls : j < listed.size := by omega
    obtain ⟨r, B, hr, hB⟩ := nth_suffix (R := R) (j := j) (by omega)
    obtain ⟨_, hidx, _⟩ := hH.suffix hr
    have hro : o = r.o := by rw [hB, ho] at hidx; cases hidx; rfl
    subst hro
    have hf : listed[j] = false := by simpa [Array.getD, hls] using h1
    have hat : At C ops env H nx R (fun i => listed.getD i false) r B := ⟨hH, hO, hcl, hr, by simp [hB, hls, hf], hpre⟩
    unfold wpOp
    rw [ho]
    have next : ∀ m' S' H' a' w', InvD C F env H nx R (setE (fun i => listed.getD i false) B.length) m' S' H' a' w' → wpAny C.P .any ops Q fuel (listed.setIfInBounds j true) a' w' := ?next
    rcases stepD (Q := Q) hat hI next with ⟨hw, hst⟩ | ⟨hw, hst⟩
    · simp only [hw, if_true]
      exact .inl hst
    · simp only [hw, if_false, Bool.false_eq_true]
      exact hst
    intro m' S' H' a' w' hI'
    rw [hB, ← setE_eq hls] at hI'
    refine ih _ m' S' H' a' w' (by simp [hs]) ?_ ?_ hI'
    · rw [Array.toList_setIfInBounds, List.count_set (by simpa using hls)]
      have : listed.toList[j]'(by simpa using hls) = false := by simpa using hf
      rw [this]
      have hc' : listed.toList.count false = fuel + 1 := hc
      rw [hc']
      rfl
    · rw [setE_eq hls]
      exact closed_set hcl ho hpre

theorem rep_false (n i : Nat) : (Array.replicate n false).getD i false = false := by
  by_cases h : i < n <;> simp [Array.getD, h]

theorem good_congr [Tabs] {m : Ids} {S : Blocks} {w : World} {H H' : Heap} (h : Good m S w H) (he : ∀ id, lkH H id = lkH H' id) : Good m S w H' :=
  ⟨fun id => by rw [← he id]; exact h.rel id, fun i j vi vj k hi hj => h.sep i j vi vj k (by rw [he i]; exact hi) (by rw [he j]; exact hj), fun g hg => ⟨(h.ro g hg).1, fun i v hl => (h.ro g hg).2 i v (by rw [he i]; exact hl)⟩, h.tab⟩

/-- A region that draws its order and writes. -/
theorem DrawG.eff [Tabs] {C : Cx} (hC : CxOk C) {id : Nat} {ops : Array Oper} {env : Env} {H : Heap} {nx : Nat} {Q : St → Prop}
    (h : evOpsD C ops.toList ops.toList env H nx [] fun sg env H nx => ordB ops sg = true ∧ flushK C.keep [] env [] fun env => Q ⟨env, H, nx⟩) : DrawG C id ops env H nx Q := by
  refine .any fun F a w _ ⟨m, S, hc, hs, hd, hrel⟩ => ?_
  obtain ⟨R, hH, hlen, hO, hk⟩ := evOpsD_sound hC.tab (ops := ops) ops.toList [] trivial (by simp) h
  refine wp_region_any hC.mixed ?_
  have e := ext_below (nx := nx) (w' := { w with drawn := w.drawn + 1 }) hc.good ⟨rfl, rfl, rfl, Nat.le_refl _, fun _ _ => rfl⟩
  have hc' := hc.step e (Nat.le_refl _)
  refine drawLoop hH hO (by simpa using hlen) (F := F) ?_ ops.size _ m S H a _ (by simp) (by simp) ?_ ⟨hc'.good, hc'.far, hc'.owns, hc'.ro, hc'.ro0, hc'.pins, fun i hi => ?_, fun id => ?_, hs, hd, fun s => ?_⟩
  · intro E m S H₂ a w hall hI
    have hall' : ∀ {X : Type _} (f : Rec → Option X) (x0 : X), lay f x0 E R = lay f x0 (fun _ => true) R := fun f x0 => lay_congr fun r B hr _ => hall _ (by
      have := hr.length_le
      simp at this hlen
      omega)
    have hheap : ∀ id, lkH H₂ id = lkH (heapR H R) id := fun id => by rw [hI.heap id, hall', lkH_heapR]
    have hown : ∀ k, own m (heapR H R) k → own m H₂ k := fun k ⟨i, v, h1, h2⟩ => ⟨i, v, by rw [hheap]; exact h1, h2⟩
    have henv : ∀ s, RelV m S w (a.tmps.getD s undef) (lk (envR env R) s) := fun s => by
      have := hI.tmps s
      rwa [hall', ← lk_envR] at this
    obtain ⟨env', hq, he⟩ := flushK_sound (stk := []) (Rel.run (F := F) (st := ⟨envR env R, heapR H R, nxR nx R⟩) hI.size henv) _ _ _ hk (fun s => .t _ _ (.undef _))
    refine ⟨rfl, ⟨env', heapR H R, nxR nx R⟩, ⟨m, S, ⟨good_congr hI.good hheap, fun i hi => ?_, hI.far, fun k hk => hI.owns k (hown k hk), hI.ro, hI.ro0, hI.pins⟩, hI.size, hI.defers, he⟩, hq⟩
    cases hm : m i with
    | none => rfl
    | some v =>
      have hi' : nxR nx R ≤ i := hi
      rcases hI.free i (by rw [hm]; simp) with h1 | ⟨r, B, hr, _, _, h1⟩
      · have := hH.nx_le
        omega
      · have := hH.n1_le hr
        omega
  · intro j o ho hj
    have hj' : (Array.replicate ops.size false).getD j false = true := hj
    rw [rep_false] at hj'
    cases hj'
  · left
    cases Nat.lt_or_ge i nx with
    | inl h => exact h
    | inr h => exact (hi (hc'.free i h)).elim
  · have : lay (fH id) (lkH H id) (fun i => (Array.replicate ops.size false).getD i false) R = lkH H id := by
      rw [lay_cut (List.nil_suffix) fun r B _ _ _ => rep_false _ _]
      rfl
    rw [this]
  · have : lay (fE s) (lk env s) (fun i => (Array.replicate ops.size false).getD i false) R = lk env s := by
      rw [lay_cut (List.nil_suffix) fun r B _ _ _ => rep_false _ _]
      rfl
    rw [this]
    exact e.relV hc.good (hrel s)

end Go.Own

/-
  Loops that count up; small helps for proofs of functions.
-/
namespace Go.Own

theorem loop_up [Tabs] {C : Cx} (hT : CxOk C) {body : Code} {st0 : St} {Q : Exit → St → Prop} (n : Nat) (P : Nat → Prop) (st : Nat → St) (h0 : P 0) (hw : Wk C.pn C.N st0 (st 0))
    (round : ∀ k, k ≤ n → P k → evCode C body (st k) (loopQ (fun k => k ≤ n ∧ P k) (fun k => n - k) (n - k) C.pn C.N st Q)) : LoopG C body st0 Q :=
  loop_inv hT (σ := Nat) (fun k => k ≤ n ∧ P k) (fun k => n - k) st 0 ⟨Nat.zero_le _, h0⟩ hw fun k ⟨h1, h2⟩ => round k h1 h2

theorem up [Tabs] {n k pn N : Nat} {P : Nat → Prop} {st : Nat → St} {st' : St} (h : k < n) (hP : P (k + 1)) (hw : Wk pn N st' (st (k + 1))) : ∃ s, (s ≤ n ∧ P s) ∧ n - s < n - k ∧ Wk pn N st' (st s) :=
  ⟨k + 1, ⟨h, hP⟩, by omega, hw⟩

theorem getD_mem {α : Type _} {l : List α} {k : Nat} {d : α} (h : k < l.length) : l.getD k d ∈ l := by simp [List.getD, List.getElem?_eq_getElem h]
theorem mem_getD {α : Type _} {l : List α} {x d : α} (h : x ∈ l) : ∃ k, k < l.length ∧ l.getD k d = x := by
  obtain ⟨k, hk, rfl⟩ := List.getElem_of_mem h
  exact ⟨k, hk, by simp [List.getD, List.getElem?_eq_getElem hk]⟩
theorem take_getD {α : Type _} {l : List α} {k : Nat} {d : α} (h : k < l.length) : l.take (k + 1) = l.take k ++ [l.getD k d] := by
  rw [List.take_add_one]
  simp [List.getD, List.getElem?_eq_getElem h]

/-- A result that is handed on to be read only. -/
def freezeR : AR → AR
  | .val a => .val a
  | .new (.lst _ E l) => .val (.lsl E l)
  | .new (.row _ E enc d xs) => .val (.sl E enc d xs)
  | .new (.smap ev dv es) => .val (.rsmap ev dv es)
  | .new (.imap k ev dv es) => .val (.rimap k ev dv es)
  | .new _ => .val .undef

theorem freezeR_rel {S S2 : Blocks} {w : World} {B : Nat} {u : Value} {r : AR} (h : RelR S w B u r) (hS : ∀ g, S g → S2 g) (hb : ∀ b g, r = .new b → blk u = some g → S2 g) : RelR S2 w B u (freezeR r) := by
  cases r with
  | val a => exact RelT.more hS h
  | new b =>
    have hrel := h.2.2 0
    have hbk := fun g => hb b g rfl
    cases b with
    | dead => exact .undef u
    | cells e l => exact .undef u
    | arr e k n f => exact .undef u
    | que e E enc d xs => exact .undef u
    | lst e E l =>
      obtain ⟨v, vs, hm, hr⟩ := hrel
      simp at hm
      subst hm
      exact hr.lent hS hbk
    | row e E enc d xs =>
      obtain ⟨v, vs, hm, hr⟩ := hrel
      simp at hm
      subst hm
      exact .sl _ _ _ _ _ (hr.lent hS hbk)
    | smap ev dv es =>
      obtain ⟨r, en, clock, hm, hr, hl, hst, hrel⟩ := hrel
      simp at hm
      subst hm
      exact .rsmap ev dv es r clock en (hbk r rfl) hr hl hst (fun j x p h1 h2 => (hrel j x p h1 h2).1) (fun j x p h1 h2 => (hrel j x p h1 h2).2.more hS)
    | imap k ev dv es =>
      obtain ⟨r, en, clock, hm, hr, hl, hst, hrel⟩ := hrel
      simp at hm
      subst hm
      exact .rimap k ev dv es r clock en (hbk r rfl) hr hl hst (fun j x p h1 h2 => (hrel j x p h1 h2).1) (fun j x p h1 h2 => (hrel j x p h1 h2).2.more hS)

theorem freezeR_val (r : AR) : ∃ a, freezeR r = .val a := by
  cases r with
  | val a => exact ⟨a, rfl⟩
  | new b => cases b <;> exact ⟨_, rfl⟩

theorem Left.freeze {S S' : Blocks} {w w' : World} {us : List Value} {rs : List AR} (h : Left S w us rs S' w') : ∃ S2, Left S w us (rs.map freezeR) S2 w' := by
  have hnew : ∀ (j : Nat) (u : Value) (b : AB) (g : Nat), us[j]? = some u → rs[j]? = some (.new b) → blk u = some g → w.heap.size ≤ g ∧ g < w'.heap.size := by
    intro j u b g hu hb hg
    obtain ⟨h1, h2, h3⟩ : RelR S' w' w.heap.size u (.new b) := h.rel j u _ hu hb
    exact ⟨h2 g hg, (h3 0).blk_lt h1 (by simp) hg⟩
  refine ⟨fun g => S' g ∨ ∃ (j : Nat) (u : Value) (b : AB), us[j]? = some u ∧ rs[j]? = some (AR.new b) ∧ blk u = some g, ⟨by simp [h.len], fun j u r hu hr => ?_, h.below, fun g hg => .inl (h.ros g hg), fun g hg => ?_, fun g hg => ?_, fun i u b k hu hb => ?_⟩⟩
  · rw [List.getElem?_map] at hr
    cases hr0 : rs[j]? with
    | none => rw [hr0] at hr; cases hr
    | some r0 =>
      rw [hr0] at hr
      cases hr
      exact freezeR_rel (h.rel j u r0 hu hr0) (fun g hg => .inl hg) fun b g e hg => .inr ⟨j, u, b, hu, by rw [hr0, e], hg⟩
  · rcases hg with hg | ⟨j, u, b, h1, h2, h3⟩
    · exact h.fresh g hg
    · exact .inr (hnew j u b g h1 h2 h3).1
  · rcases hg with hg | ⟨j, u, b, h1, h2, h3⟩
    · exact h.lt g hg
    · exact (hnew j u b g h1 h2 h3).2
  · rw [List.getElem?_map] at hb
    cases hr0 : rs[i]? with
    | none => rw [hr0] at hb; cases hb
    | some r0 =>
      rw [hr0] at hb
      obtain ⟨a, ha⟩ := freezeR_val r0
      simp [ha] at hb

theorem APure.freeze [Tabs] {P : Program} {f : FuncId} {args : List AV} {R : List AR → Prop} (h : APure P f args R) : APure P f args (fun rs' => ∃ rs, R rs ∧ rs' = rs.map freezeR) :=
  ⟨h.1, fun S w vs hS hT hv => (h.2 S w vs hS hT hv).mono fun _ _ ⟨us, rs, S', he, hR, hl⟩ => let ⟨S2, hl2⟩ := hl.freeze; ⟨us, _, S2, he, ⟨rs, hR, rfl⟩, hl2⟩⟩

/-- .. of one result. -/
theorem APure.freeze1 [Tabs] {P : Program} {f : FuncId} {args : List AV} {rs0 : List AR} (h : APure P f args (fun rs => rs = rs0)) : APure P f args (fun rs => rs = rs0.map freezeR) :=
  h.freeze.mono fun rs ⟨rs', e, e'⟩ => by subst e; exact e'

/-- Nil is an empty row of one's own. -/
inductive LeR : AR → AR → Prop
  | same (r : AR) : LeR r r
  | nil {T : Type} (e E : Nat) (enc : T → AV) (d : T) : LeR (.val .nils) (.new (.row e E enc d []))
  | nill (e E : Nat) : LeR (.val .nils) (.new (.lst e E []))
  | lst {T : Type} (e E : Nat) (enc : T → AV) (d : T) (l : List AV) (xs : List T) (h : l = xs.map enc) : LeR (.new (.lst e E l)) (.new (.row e E enc d xs))
  | nilsl {T : Type} (E : Nat) (enc : T → AV) (d : T) : LeR (.val .nils) (.val (.sl E enc d []))
  | lsl {T : Type} (E : Nat) (enc : T → AV) (d : T) (l : List AV) (xs : List T) (h : l = xs.map enc) : LeR (.val (.lsl E l)) (.val (.sl E enc d xs))

theorem LeR.rel {S : Blocks} {w : World} {B : Nat} {u : Value} {r r' : AR} (h : LeR r r') (hr : RelR S w B u r) : RelR S w B u r' ∧ ∀ b', r' = .new b' → ∀ k, blk u = some k → ∃ b, r = .new b := by
  cases h with
  | same r => exact ⟨hr, fun b' e k _ => ⟨b', e⟩⟩
  | nil e E enc d =>
    have : u = .slice none 0 0 := by cases hr; rfl
    subst this
    exact ⟨⟨rfl, fun k hk => by simp [blk] at hk, fun n => ⟨_, [], by simp, ⟨World.ownsRow_nil w 0 e E, by simp, by simp [flat], by simp⟩⟩⟩, fun b' _ k hk => by simp [blk] at hk⟩
  | nill e E =>
    have : u = .slice none 0 0 := by cases hr; rfl
    subst this
    exact ⟨⟨rfl, fun k hk => by simp [blk] at hk, fun n => ⟨_, [], by simp, ⟨World.ownsRow_nil w 0 e E, by simp, by simp [flat], by simp⟩⟩⟩, fun b' _ k hk => by simp [blk] at hk⟩
  | lst e E enc d l xs h =>
    subst h
    exact ⟨⟨rfl, hr.2.1, fun n => hr.2.2 n⟩, fun b' _ k _ => ⟨_, rfl⟩⟩
  | nilsl E enc d =>
    have : u = .slice none 0 0 := by cases hr; rfl
    subst this
    exact ⟨.sl _ _ _ _ _ (.lslnil E), fun b' e => by cases e⟩
  | lsl E enc d l xs h =>
    subst h
    exact ⟨.sl _ _ _ _ _ hr, fun b' e => by cases e⟩

theorem APure.le [Tabs] {P : Program} {f : FuncId} {args : List AV} {R R' : List AR → Prop} (h : APure P f args R) (hle : ∀ rs, R rs → ∃ rs', R' rs' ∧ rs'.length = rs.length ∧ ∀ (j : Nat) (r r' : AR), rs[j]? = some r → rs'[j]? = some r' → LeR r r') : APure P f args R' := by
  refine ⟨h.1, fun S w vs hS hT hv => (h.2 S w vs hS hT hv).mono fun _ _ ⟨us, rs, S', he, hR, hl⟩ => ?_⟩
  obtain ⟨rs', hR', hlen, hr⟩ := hle rs hR
  have get : ∀ (j : Nat) (u : Value) (r' : AR), us[j]? = some u → rs'[j]? = some r' → ∃ r, rs[j]? = some r ∧ LeR r r' := by
    intro j u r' hu hr'
    obtain ⟨r, hrj⟩ : ∃ r, rs[j]? = some r := ⟨_, List.getElem?_eq_getElem (by have := (List.getElem?_eq_some_iff.1 hr').1; omega)⟩
    exact ⟨r, hrj, hr j r r' hrj hr'⟩
  refine ⟨us, rs', S', he, hR', ⟨by rw [hlen]; exact hl.len, fun j u r' hu hr' => ?_, hl.below, hl.ros, hl.fresh, hl.lt, fun i u b' k hu hb hk => ?_⟩⟩
  · obtain ⟨r, hrj, hle⟩ := get j u r' hu hr'
    exact (hle.rel (hl.rel j u r hu hrj)).1
  · obtain ⟨r, hrj, hle⟩ := get i u _ hu hb
    obtain ⟨b, rfl⟩ := (hle.rel (hl.rel i u r hu hrj)).2 b' rfl k hk
    obtain ⟨h1, h2⟩ := hl.apart i u b k hu hrj hk
    refine ⟨h1, fun j u' b'' hu' hb' hk' => ?_⟩
    obtain ⟨r2, hrj2, hle2⟩ := get j u' _ hu' hb'
    obtain ⟨b2, rfl⟩ := (hle2.rel (hl.rel j u' r2 hu' hrj2)).2 b'' rfl k hk'
    exact h2 j u' b2 hu' hrj2 hk'

theorem flats_nil : ∀ r ∈ ([] : List AR), r.flat := fun r h => by simp at h
theorem flats_cons {r : AR} {rs : List AR} (h : r.flat) (t : ∀ x ∈ rs, x.flat) : ∀ x ∈ r :: rs, x.flat := fun x hx => by
  rcases List.mem_cons.1 hx with rfl | hx
  · exact h
  · exact t x hx
theorem flat_val (a : AV) (h : a.scal = true) : (AR.val a).flat := h
theorem flat_row {T : Type} {e E : Nat} {enc : T → AV} {d : T} {xs : List T} (h : ∀ x, (enc x).scal = true) : (AR.new (.row e E enc d xs)).flat := fun x _ => h x
theorem flat_lst {T : Type} {e E : Nat} {enc : T → AV} {xs : List T} (h : ∀ x, (enc x).scal = true) : (AR.new (.lst e E (xs.map enc))).flat := fun y hy => by
  obtain ⟨x, _, rfl⟩ := List.mem_map.1 hy
  exact h x

/-! ### Lending, by short names -/
theorem lS {H : Heap} {a : AV} (h : a.tree = true) : Lend H a a [] := .base (.base (.same _ h))
theorem lR {T : Type} {H : Heap} {id e E : Nat} {enc : T → AV} {d : T} {xs : List T} (h : lkH H id = .row e E enc d xs) : Lend H (.own id) (.sl E enc d xs) [id] := .base (.base (.row _ _ _ _ _ _ h))
theorem lL {H : Heap} {id e E : Nat} {l : List AV} (h : lkH H id = .lst e E l) : Lend H (.own id) (.lsl E l) [id] := .base (.base (.lst _ _ _ _ h))
theorem lM {T : Type} {H : Heap} {id e E : Nat} {l : List AV} {enc : T → AV} {d : T} {xs : List T} (h : lkH H id = .lst e E l) (hl : l = xs.map enc) : Lend H (.own id) (.sl E enc d xs) [id] := .base (.base (.lstrow _ _ _ _ _ _ _ h hl))
theorem lX {T : Type} {H : Heap} {E : Nat} {l : List AV} {enc : T → AV} {d : T} {xs : List T} (h : l = xs.map enc) : Lend H (.lsl E l) (.sl E enc d xs) [] := .base (.base (.lsl _ _ _ _ _ h))
theorem lN {T : Type} {H : Heap} {E : Nat} {enc : T → AV} {d : T} : Lend H .nils (.sl E enc d []) [] := .base (.base (.nils _ _ _))
theorem lNl {H : Heap} {E : Nat} : Lend H .nils (.lsl E []) [] := .base (.base (.nill _))
theorem lSm {V : Type} {H : Heap} {id : Nat} {ev : V → AV} {dv : V} {es : List (List UInt8 × V)} (h : lkH H id = .smap ev dv es) : Lend H (.map id) (.rsmap ev dv es) [id] := .base (.base (.smap _ _ _ _ h))
theorem lIm {V : Type} {H : Heap} {id : Nat} {k : IntKind} {ev : V → AV} {dv : V} {es : List (Int × V)} (h : lkH H id = .imap k ev dv es) : Lend H (.map id) (.rimap k ev dv es) [id] := .base (.base (.imap _ _ _ _ _ h))
theorem borL_same {H : Heap} : ∀ {l : List AV}, treesB l = true → BorL (Bor1 H (Bor H)) l l []
  | [], _ => .nil
  | a :: l, h => by
    have ha := treesB_spec h a (List.mem_cons_self)
    have hl : treesB l = true := by
      unfold treesB at h
      split at h
      · exact h
      · cases h
    exact .cons (t := []) (t' := []) (.base (.same _ ha)) (borL_same hl)
/-- A box of trees. -/
theorem lB {H : Heap} {id e : Nat} {l : List AV} (h : lkH H id = .cells e l) (ht : treesB l = true) (h1 : allOne l = true) : Lend H (.ptr id 0) (.rop l) [id] := .box id 0 e l l [] h (borL_same ht) (allOne_spec h1)
theorem lP {T : Type} {H : Heap} {id n e E : Nat} {enc : T → AV} {d : T} {xs : List T} (h : lkH H id = .row e E enc d xs) : Lend H (.pre id n) (.sl E enc d (xs.take n)) [id] := .base (.base (.pre _ _ _ _ _ _ _ h))
theorem lQ {T : Type} {H : Heap} {id off n e E : Nat} {enc : T → AV} {d : T} {xs : List T} (h : lkH H id = .row e E enc d xs) : Lend H (.part id E off n) (.sl E enc d ((xs.drop off).take n)) [id] := .base (.base (.part _ _ _ _ _ _ _ _ h))

end Go.Own

/-
  slices.Sort and slices.Compact over a row of ints of the caller's own.
-/
namespace Go.Own
open Go.Proofs Go.Shelf Go.RowKit Go.Sort

def leZ (a b : Int) : Bool := decide (a ≤ b)

theorem row_ints {S : Blocks} {w : World} {e : TypeId} {enc : Int → AV} {xs : List Int} {v : Value} {vs : List Value} (henc : ∀ x, enc x = .int .i64 x) (h : RowRel S w e 1 (xs.map enc) v vs) : vs = xs.map (Value.int .i64) := by
  have hlen := h.owns.1
  simp at hlen
  apply List.ext_getElem?
  intro j
  by_cases hj : j < vs.length
  · have hjx : j < xs.length := by omega
    have h1 : vs[j]? = some vs[j] := List.getElem?_eq_getElem hj
    have h2 : (flat (xs.map enc))[j]? = some (.int .i64 xs[j]) := by
      have : flat (xs.map enc) = xs.map (AV.int .i64) := by
        unfold flat
        rw [List.flatMap_map]
        clear hlen h h1 hjx hj
        induction xs with
        | nil => rfl
        | cons x xs ih => rw [List.flatMap_cons, ih, henc]; rfl
      rw [this, List.getElem?_map, List.getElem?_eq_getElem hjx]
      rfl
    have := h.rel j _ _ h1 h2
    rw [h1, List.getElem?_map, List.getElem?_eq_getElem hjx]
    cases hv : vs[j] with
    | int k n => rw [hv] at this; cases this; rfl
    | _ => rw [hv] at this; cases this
  · rw [List.getElem?_eq_none (by omega), List.getElem?_eq_none (by simp; omega)]

theorem rowRel_ints {S : Blocks} {w : World} {e : TypeId} {enc : Int → AV} {xs : List Int} {v : Value} (henc : ∀ x, enc x = .int .i64 x) (h : w.ownsRow 0 e 1 v xs.length (xs.map (Value.int .i64))) : RowRel S w e 1 (xs.map enc) v (xs.map (Value.int .i64)) := by
  have hf : flat (xs.map enc) = xs.map (AV.int .i64) := by
    unfold flat
    rw [List.flatMap_map]
    clear h
    induction xs with
    | nil => rfl
    | cons x xs ih => rw [List.flatMap_cons, ih, henc]; rfl
  refine ⟨by simpa using h, fun x hx => ?_, fun a ha => ?_, fun j c a hj ha => ?_⟩
  · obtain ⟨y, _, rfl⟩ := List.mem_map.1 hx
    rw [henc]
    rfl
  · rw [hf] at ha
    obtain ⟨y, _, rfl⟩ := List.mem_map.1 ha
    rfl
  · rw [hf] at ha
    rw [List.getElem?_map, Option.map_eq_some_iff] at hj ha
    obtain ⟨y, hy, rfl⟩ := hj
    obtain ⟨z, hz, rfl⟩ := ha
    rw [hy] at hz
    cases hz
    exact .int _ _

theorem ext_same [Tabs] {m : Ids} {S : Blocks} {w : World} {H H' : Heap} {nx : Nat} (h : Good m S w H) (he : ∀ id, lkH H' id = lkH H id) : Ext m S w H nx nx m S w H' := by
  have hG : Good m S w H' := ⟨fun id => by rw [he]; exact h.rel id, fun i j vi vj k hi hj => h.sep i j vi vj k (by rw [← he]; exact hi) (by rw [← he]; exact hj), fun g hg => ⟨(h.ro g hg).1, fun i v hl => (h.ro g hg).2 i v (by rw [← he]; exact hl)⟩, h.tab⟩
  exact ⟨fun _ _ h => h, fun _ _ => rfl, fun _ h => h, fun _ h => .inl h, Far.refl _ _, fun k ⟨i, v, hl, hv, hk⟩ => .inl ⟨i, v, by rw [← he]; exact hl, hv, hk⟩, hG⟩

theorem own_ints [Tabs] {m : Ids} {S : Blocks} {w : World} {H : Heap} {id : Nat} {e : TypeId} {enc : Int → AV} {d : Int} {xs : List Int} {v : Value} (henc : ∀ x, enc x = .int .i64 x) (hG : Good m S w H) (hid : lkH H id = .row e 1 enc d xs) (hv : RelV m S w v (.own id)) :
    m id = some v ∧ ((v = .slice none 0 0 ∧ xs = []) ∨ ∃ g cap cur, v = .slice (some ⟨g, 0, none⟩) xs.length cap ∧ w.heap[g]? = some (.cells cur e (0, 0)) ∧ xs.length ≤ cap ∧ cap ≤ maxLen ∧ cur.size = cap * 1 ∧ cur.toList.take xs.length = xs.map (Value.int .i64)) := by
  have hb := hG.rel id
  rw [hid] at hb
  obtain ⟨v', vs, hmi, hrow⟩ := hb
  cases hv with
  | t _ _ h => cases h
  | own id n cap a hm =>
    rw [hmi] at hm
    cases hm
    refine ⟨hmi, ?_⟩
    have hvs := row_ints henc hrow
    rcases hrow.owns.2 with ⟨h0, h1⟩ | ⟨g, cap', cur, h0, _, h2, h3, h4, h5, h6⟩
    · left
      refine ⟨h0, ?_⟩
      have : (xs.map enc).length = 0 := h1
      exact List.eq_nil_of_length_eq_zero (by simpa using this)
    · right
      rw [h0]
      refine ⟨g, cap', cur, by simp, h2, by simpa using h3, h4, h5, ?_⟩
      rw [← hvs, ← h6]
      simp

theorem put_ext [Tabs] {m : Ids} {S : Blocks} {w : World} {H : Heap} {nx id q : Nat} {e : TypeId} {enc : Int → AV} {d : Int} {xs ys : List Int} {v : Value} {g cap : Nat} {cur : Array Value} {os : Array Obj} (henc : ∀ x, enc x = .int .i64 x) (hG : Good m S w H) (hid : lkH H id = .row e 1 enc d xs) (hmi : m id = some v)
    (hv : v = .slice (some ⟨g, 0, none⟩) xs.length cap) (hg : w.heap[g]? = some (.cells cur e (0, 0))) (h1 : xs.length ≤ cap) (h2 : cap ≤ maxLen) (h3 : cur.size = cap * 1) (hl : ys.length = xs.length) :
    Ext m S w H nx nx m S (grow (putRow encZ (Sort.ahead w q) g 0 ys.toArray) os) ((id, .row e 1 enc d ys) :: H) := by
  have hlive : (lkH H id).live = true := by rw [hid]; rfl
  have hgb := grownBy_sorted_i (w := w) (g := g) (n := q) (os := os) ys.toArray
  refine ext_upd hG hlive hmi (k0 := g) (by rw [hv]; rfl) _ _ hgb.os hgb.tape hgb.output hgb.size (fun k hk hne => hgb.block k hk (fun e => hne (by cases e; rfl))) ?_
  have hown := ownsRow_sorted_i (base := 0) (n := q) (os := os) hl (Nat.zero_le _) hg h1 h2 h3
  rw [← hl] at hown
  exact ⟨v, _, hmi, by
    rw [hv, ← hl]
    exact rowRel_ints henc hown⟩

theorem sortI_sem [Tabs] {P : Program} {ρ : Shelf.Ren} (L : SlLaysM.n5 P ρ) (hfn : FnOk P (ρ.f 5)) {H : Heap} {nx id : Nat} {e : TypeId} {enc : Int → AV} {d : Int} {xs : List Int} (henc : ∀ x, enc x = .int .i64 x) (hid : lkH H id = .row e 1 enc d xs) (hmax : xs.length ≤ 1000000) :
    CallSem P (ρ.f 5) [.own id] H nx [id] (fun r => r = ⟨.tup [], [id], [(id, .row e 1 enc d (xs.mergeSort leZ))], nx⟩) := by
  refine ⟨hfn, fun m S w H₂ vs hG ht hfree hlen hrel => ?_⟩
  match vs, hlen with
  | [v], _ =>
    have hid2 : lkH H₂ id = .row e 1 enc d xs := by rw [ht id (by simp)]; exact hid
    obtain ⟨hmi, h⟩ := own_ints henc hG hid2 (hrel 0 v _ rfl rfl)
    rcases h with ⟨hv, hx⟩ | ⟨g, cap, cur, hv, hg, h1, h2, h3, h4⟩
    · subst hx
      subst hv
      refine (AnyM.slices_Sort_int_none L none 0 w).mono ?_
      rintro e' w' ⟨rfl, rfl⟩
      refine ⟨_, _, m, S, rfl, rfl, ext_same hG (fun i => ?_), .t _ _ (.tup #[] [] rfl fun j c a hj => by simp at hj)⟩
      show lkH ((id, _) :: H₂) i = _
      rw [lkH_cons]
      split
      · rename_i hi
        subst hi
        rw [hid2, List.mergeSort_nil]
      · rfl
    · have hH : Holds encZ w g 0 xs.toArray := holds_of_block_i hg (by rw [h4])
      have hgl : g < w.heap.size := (Array.getElem?_eq_some_iff.1 hg).1
      have hcall := AnyM.slices_Sort_int L g 0 cap xs w hH hgl (by omega)
      rw [← hv] at hcall
      refine hcall.mono ?_
      rintro e' w' ⟨rfl, q, os, rfl⟩
      refine ⟨_, _, m, S, rfl, rfl, ?_, .t _ _ (.tup #[] [] rfl fun j c a hj => by simp at hj)⟩
      exact put_ext henc hG hid2 hmi hv hg h1 h2 h3 (List.length_mergeSort _)

end Go.Own

/-
  From the readings of a row's arguments to abstract values, and from a contract to the row.
-/
namespace Go.Own
open Go.ChangeShapes Go.WideShapes Go.RowKit

/-- The blocks that are there. -/
abbrev All (W : World) : Blocks := fun g => g < W.heap.size

/-- What cells of a type read as. -/
def OpensC (P : Program) (t : TypeId) {X : Type} (enc : X → AV) (ok : X → Prop) : Prop :=
  ∀ {H : Type} (ec : TypeId × Value → H) (W : World) (fuel : Nat) (cs : List Value) (x : DataW H × List MemPlace), DataW.trod ec P W 0 (fun _ => true) true fuel t cs = some x →
    ∃ a, ok a ∧ cs.length = (enc a).cells.length ∧ (∀ b ∈ (enc a).cells, b.one = true) ∧ ∀ (j : Nat) (c : Value) (b : AV), cs[j]? = some c → (enc a).cells[j]? = some b → RelT (All W) W c b

/-- A contract that says 'true' is the row's. -/
theorem row_of_apure [Tabs] {H : Type} {enc : TypeId × Value → H} {P : Program} {fn : Func} {f : FuncId} {s : ChangeSpec} {W : World} {args : Array Value} {ds : List (DataW H)} {before : List MemPlace} {tb : TypeId}
    (hl : laidOutB P = true) (hsv : s.vars = []) (hW : DataW.Whole enc P fn.params.toList s.vars false W args.toList ds [] before) (hr : ∀ t ∈ fn.params.toList, P.readableRec t = true ∧ t < P.types.size)
    (hres : fn.resultTypes = #[tb]) (htb : P.underlying tb = some .bool) (hspec : s.fn H (ds ++ []) = { results := [.lit (.bool true)], args := ds }) {avs : List AV} (hTb : TabAt (All W) W) (hA : APureV P f avs (.bool true)) (hT : RelTs (All W) W args.toList avs) :
    Calls P f args W fun e W' => ∃ v, e = .returned v ∧ s.post enc P fn false true false false W args v W' := by
  have hW' := hW
  obtain ⟨p, q, hAll, hV, hpq, _, _⟩ := hW
  rw [hsv] at hV
  have hq : q = [] := by simpa [DataW.TrodVars] using hV
  subst hq
  have hlt : ∀ x ∈ p, x.block < W.heap.size := fun x hx => by simpa using hW'.lt x (by rw [hpq]; simp [hx])
  have carry : ∀ (W' : World), Below W.heap.size W W' → ∀ (ts : List TypeId) (vs : List Value) (ds : List (DataW H)) (p : List MemPlace), (∀ t ∈ ts, P.readableRec t = true ∧ t < P.types.size) → (∀ x ∈ p, x.block < W.heap.size) →
      DataW.TrodAll enc P W 0 (fun _ => true) true ts vs ds p → DataW.TrodAll enc P W' 0 (fun b => decide (b < W.heap.size)) true ts vs ds p := by
    intro W' hb ts
    induction ts with
    | nil => intro vs ds p _ _ h; cases vs <;> cases ds <;> first | exact h | exact h.elim
    | cons t ts ih =>
      intro vs ds p ht hlt h
      cases vs with
      | nil => exact h.elim
      | cons v vs => cases ds with
        | nil => exact h.elim
        | cons d ds =>
          obtain ⟨p1, p2, h1, h2, rfl⟩ := h
          exact ⟨p1, p2, Below.trod hl (ht t (by simp)).1 (ht t (by simp)).2 h1 hb (fun x hx => hlt x (by simp [hx])), ih vs ds p2 (fun t h => ht t (by simp [h])) (fun x hx => hlt x (by simp [hx])) h2, rfl⟩
  have hcall := hA.2 (All W) W args.toList (fun _ h => h) hTb hT
  have he : args.toList.toArray = args := by simp
  rw [he] at hcall
  refine hcall.mono fun e W' ⟨us, rs, S', he, hrs, hL⟩ => ?_
  subst hrs
  have hlen := hL.len
  match us, hlen with
  | [u], _ =>
    have hu : RelT S' W' u (.bool true) := hL.rel 0 u _ rfl rfl
    have hub : u = .bool true := by cases hu; rfl
    subst hub
    refine ⟨.bool true, he, ds, [], before, [] ++ [], p, [], hW', ?_, ?_, ?_, hL.below.frame _, fun h => by cases h⟩
    · rw [hspec, hres]
      exact trodAll_mk1 (shut_bool htb _)
    · rw [hspec]
      exact carry W' hL.below _ _ _ _ hr hlt hAll
    · rw [hspec, hsv]
      rfl

end Go.Own

/-
  From the readings of a row's arguments to abstract values: any types of numbers, bools, strings, structs, slices; and the row, once for all laws.
-/
namespace Go.Own
open Go.ChangeShapes Go.WideShapes Go.RowKit

/-- What n cells of a type read as. -/
def OpensR (P : Program) (t : TypeId) (n : Nat) (R : List AV → Prop) : Prop :=
  P.cellsOf t = n ∧ ∀ {H : Type} (ec : TypeId × Value → H) (W : World) (fuel : Nat) (cs : List Value) (x : DataW H × List MemPlace), DataW.trod ec P W 0 (fun _ => true) true fuel t cs = some x →
    ∃ l, R l ∧ cs.length = l.length ∧ l.length = n ∧ (∀ b ∈ l, b.one = true) ∧ ∀ (j : Nat) (c : Value) (b : AV), cs[j]? = some c → l[j]? = some b → RelT (All W) W c b

theorem opensR_int {P : Program} {t : TypeId} {k : IntKind} (ht : P.underlying t = some (.int k)) (hc : P.cellsOf t = 1) : OpensR P t 1 (fun l => ∃ n, (k.min ≤ n ∧ n ≤ k.max) ∧ l = [.int k n]) := by
  refine ⟨hc, fun ec W fuel cs x h => ?_⟩
  obtain ⟨n, rfl, _, hw⟩ := DataW.trod_int ht h
  simp only [Lit.wf, Bool.and_eq_true, decide_eq_true_eq] at hw
  refine ⟨_, ⟨n, hw, rfl⟩, rfl, rfl, by simp [AV.one], fun j c b hj hb => ?_⟩
  cases j with
  | zero => simp at hj hb; subst hj; subst hb; exact .int _ _
  | succ j => simp at hj

theorem opensR_str {P : Program} {t : TypeId} (ht : P.underlying t = some .string) (hc : P.cellsOf t = 1) : OpensR P t 1 (fun l => ∃ s : List UInt8, s.length ≤ 9223372036854775807 ∧ l = [.str s]) := by
  refine ⟨hc, fun ec W fuel cs x h => ?_⟩
  obtain ⟨s, rfl, _, hs⟩ := DataW.trod_string ht h
  have hs' : s.data.toList.length ≤ 9223372036854775807 := by
    show s.size ≤ _
    unfold maxLen at hs
    omega
  refine ⟨_, ⟨s.data.toList, hs', rfl⟩, rfl, rfl, by simp [AV.one], fun j c b hj hb => ?_⟩
  cases j with
  | zero => simp at hj hb; subst hj; subst hb; exact .str _ _ rfl
  | succ j => simp at hj

/-- The fields of a struct. -/
def FieldsR (P : Program) : Nat → List Field → List (Nat × (List AV → Prop)) → Nat → Prop
  | off, [], [], n => off = n
  | off, f :: fs, (k, R) :: Rs, n => f.offset = off ∧ OpensR P f.type k R ∧ FieldsR P (off + k) fs Rs n
  | _, _, _, _ => False

def StrR : List (Nat × (List AV → Prop)) → List AV → Prop
  | [], l => l = []
  | (_, R) :: Rs, l => ∃ l1 l2, R l1 ∧ StrR Rs l2 ∧ l = l1 ++ l2

theorem opensR_struct {P : Program} {t : TypeId} {fs : Array Field} {n : Nat} {Rs : List (Nat × (List AV → Prop))} (ht : P.underlying t = some (.struct fs)) (hc : P.cellsOf t = n) (hf : FieldsR P 0 fs.toList Rs n) : OpensR P t n (StrR Rs) := by
  refine ⟨hc, fun {H} ec W fuel cs x h => ?_⟩
  obtain ⟨xs, m, _, _, hl, hlen, hfs⟩ := DataW.trod_struct ht h
  rw [hc] at hl
  have key : ∀ (gs : List Field) (Rs : List (Nat × (List AV → Prop))) (off i : Nat), FieldsR P off gs Rs n → (∀ j, gs[j]? = fs[i + j]?) → off ≤ n →
      ∃ l, StrR Rs l ∧ off + l.length = n ∧ (∀ b ∈ l, b.one = true) ∧ ∀ (j : Nat) (c : Value) (b : AV), cs[off + j]? = some c → l[j]? = some b → RelT (All W) W c b := by
    intro gs
    induction gs with
    | nil =>
      intro Rs off i hF _ _
      cases Rs with
      | nil =>
        have : off = n := hF
        exact ⟨[], rfl, by simpa using this, by simp, fun j c b _ h => by simp at h⟩
      | cons p Rs => exact hF.elim
    | cons f gs ih =>
      intro Rs off i hF hg hoff
      cases Rs with
      | nil => exact hF.elim
      | cons p Rs =>
        obtain ⟨k, R⟩ := p
        obtain ⟨ho, ⟨hck, hR⟩, hrest⟩ := hF
        have hfi : fs[i]? = some f := by
          have := hg 0
          simpa using this.symm
        have hi := hfs i f hfi
        have hil : i < xs.length := by
          rw [hlen]
          exact (Array.getElem?_eq_some_iff.1 hfi).1
        rw [List.getElem?_eq_getElem hil] at hi
        obtain ⟨l1, h1, h2, h3, h4, h5⟩ := hR ec W m _ _ hi
        have hk : k ≤ n - off := by
          rw [ho, hck] at h2
          simp at h2
          omega
        obtain ⟨l2, g1, g2, g3, g4⟩ := ih Rs (off + k) (i + 1) hrest (fun j => by
          have := hg (j + 1)
          rw [List.getElem?_cons_succ] at this
          rw [this]
          congr 1
          omega) (by omega)
        refine ⟨l1 ++ l2, ⟨l1, l2, h1, g1, rfl⟩, by simp; omega, fun b hb => ?_, fun j c b hj hb => ?_⟩
        · rcases List.mem_append.1 hb with hb | hb
          · exact h4 b hb
          · exact g3 b hb
        · by_cases hjk : j < k
          · rw [List.getElem?_append_left (by omega)] at hb
            refine h5 j c b ?_ hb
            rw [ho, hck]
            simp [hjk, hj]
          · rw [List.getElem?_append_right (by omega)] at hb
            refine g4 (j - k) c b ?_ (by rw [h3] at hb; exact hb)
            rw [← hj]
            congr 1
            omega
  obtain ⟨l, h1, h2, h3, h4⟩ := key fs.toList Rs 0 0 hf (fun j => by simp) (Nat.zero_le _)
  exact ⟨l, h1, by omega, by omega, h3, fun j c b hj hb => h4 j c b (by rw [Nat.zero_add]; exact hj) hb⟩

theorem OpensR.mono {P : Program} {t : TypeId} {n : Nat} {R R' : List AV → Prop} (h : OpensR P t n R) (hR : ∀ l, R l → R' l) : OpensR P t n R' :=
  ⟨h.1, fun ec W fuel cs x hx => let ⟨l, h1, h2⟩ := h.2 ec W fuel cs x hx; ⟨l, hR l h1, h2⟩⟩

theorem cell_block {W : World} {a : Addr} {c : Value} (h : W.cell? a = some c) : a.block < W.heap.size ∧ a.spot = none := by
  unfold World.cell? at h
  split at h
  · rename_i hb
    refine ⟨(Array.getElem?_eq_some_iff.1 hb).1, ?_⟩
    cases hs : a.spot with
    | none => rfl
    | some s => rw [hs] at h; simp at h
  · cases h

theorem addr_eta {a : Addr} (h : a.spot = none) : a = ⟨a.block, a.off, none⟩ := by
  cases a; simp at h; subst h; rfl

/-- A slice, wherever it stands. -/
theorem opensR_slice {P : Program} {t e : TypeId} {E : Nat} {R : List AV → Prop} {X : Type} [Inhabited X] {enc : X → AV} {ok : X → Prop} (d0 : X) (ht : P.underlying t = some (.slice e)) (hc : P.cellsOf t = 1) (ho : OpensR P e E R) (hpos : 0 < E)
    (hX : ∀ l, R l → ∃ a, ok a ∧ (enc a).cells = l) (hE1 : ∀ a, (enc a).cells.length = E) :
    OpensR P t 1 (fun l => ∃ xs : List X, (∀ a ∈ xs, ok a) ∧ xs.length ≤ 9223372036854775807 ∧ l = [.sl E enc d0 xs]) := by
  refine ⟨hc, fun {H} ec W fuel cs x h => ?_⟩
  have fin : ∀ {v : Value} {xs : List X}, (∀ a ∈ xs, ok a) → xs.length ≤ 9223372036854775807 → RelT (All W) W v (.lsl E (xs.map enc)) → cs = [v] →
      ∃ l, (∃ xs : List X, (∀ a ∈ xs, ok a) ∧ xs.length ≤ 9223372036854775807 ∧ l = [.sl E enc d0 xs]) ∧ cs.length = l.length ∧ l.length = 1 ∧ (∀ b ∈ l, b.one = true) ∧ ∀ (j : Nat) (c : Value) (b : AV), cs[j]? = some c → l[j]? = some b → RelT (All W) W c b := by
    intro v xs h1 h2 h3 hcs
    refine ⟨_, ⟨xs, h1, h2, rfl⟩, by rw [hcs]; rfl, rfl, by simp [AV.one], fun j c b hj hb => ?_⟩
    rw [hcs] at hj
    cases j with
    | zero => simp at hj hb; subst hj; subst hb; exact .sl _ _ _ _ _ h3
    | succ j => simp at hj
  rcases Deep.open_slice ht h with ⟨hcs, _⟩ | ⟨a, len, cap, m, n, D, Pl, hcs, hb, hl, hm, hmm, _, hel⟩
  · exact fin (xs := []) (by simp) (by simp) (.lslnil E) hcs
  · simp only [if_true] at hmm
    subst hmm
    rw [ho.1] at hel
    by_cases hm0 : m = 0
    · have hl0 : len = 0 := by omega
      subst hm0
      subst hl0
      exact fin (xs := []) (by simp) (by simp) (.lslz E a) hcs
    obtain ⟨c0, h0, _⟩ := hel 0 (by omega)
    obtain ⟨_, hlen0, hget0⟩ := World.cells?_some h0
    have hcell0 : W.cell? a = some (c0[0]'(by omega)) := by
      have := hget0 0 hpos
      rw [List.getElem?_eq_getElem (by omega)] at this
      simpa [Addr.add] using this
    obtain ⟨hlt, hspot⟩ := cell_block hcell0
    rw [addr_eta hspot] at hcs hel
    generalize a.block = g at *
    generalize a.off = o at *
    obtain ⟨A, hA⟩ := Deep.choose_lt (α := X) (n := len) (p := fun i x => ok x ∧ ∃ cs', W.cells? 0 ((⟨g, o, none⟩ : Addr).add (i * E)) E = some cs' ∧ cs'.length = (enc x).cells.length ∧ (∀ b ∈ (enc x).cells, b.one = true) ∧
        ∀ (j : Nat) (c : Value) (b : AV), cs'[j]? = some c → (enc x).cells[j]? = some b → RelT (All W) W c b) (fun i hi => by
      obtain ⟨cs', h1, h2⟩ := hel i (by omega)
      obtain ⟨l, q1, q2, _, q3, q4⟩ := ho.2 ec W n cs' _ h2
      obtain ⟨x, hx, rfl⟩ := hX l q1
      exact ⟨x, hx, cs', h1, q2, q3, q4⟩)
    have cell : ∀ i, i < len → ∀ j, j < E → ∃ c b, W.cell? ⟨g, o + (i * E + j), none⟩ = some c ∧ (enc (A i)).cells[j]? = some b ∧ RelT (All W) W c b := by
      intro i hi j hj
      obtain ⟨_, cs', h1, h2, _, h4⟩ := hA i hi
      obtain ⟨_, hlen, hget⟩ := World.cells?_some h1
      have hc := hget j hj
      have hcj : cs'[j]? = some (cs'[j]'(by omega)) := List.getElem?_eq_getElem (by omega)
      have hbj : (enc (A i)).cells[j]? = some ((enc (A i)).cells[j]'(by rw [hE1]; exact hj)) := List.getElem?_eq_getElem _
      refine ⟨_, _, ?_, hbj, h4 j _ _ hcj hbj⟩
      rw [hcj, Deep.add_add] at hc
      have e : (⟨g, o + (i * E + j), none⟩ : Addr) = (⟨g, o, none⟩ : Addr).add (i * E + j) := by
        unfold Addr.add
        split
        · rename_i h0; rw [h0]; rfl
        · rfl
      rw [e]
      exact hc
    have hsz : ∀ x ∈ ((List.range len).map A).map enc, x.cells.length = E := by
      intro x hx
      obtain ⟨y, _, rfl⟩ := List.mem_map.1 hx
      exact hE1 y
    have split : ∀ q, q < len * E → q / E < len ∧ q % E < E ∧ q = q / E * E + q % E := by
      intro q hq
      refine ⟨Nat.div_lt_of_lt_mul (by rw [Nat.mul_comm]; exact hq), Nat.mod_lt _ hpos, ?_⟩
      have := Nat.div_add_mod q E
      rw [Nat.mul_comm] at this
      omega
    have hflat : ∀ i, i < len → ∀ j, j < E → (flat (((List.range len).map A).map enc))[i * E + j]? = (enc (A i)).cells[j]? := by
      intro i hi j hj
      exact flat_get _ hsz i j _ (by simp [hi]) hj
    refine fin (v := .slice (some ⟨g, o, none⟩) len m) (xs := (List.range len).map A) (fun x hx => ?_) (by simp; unfold maxLen at hm; omega) ?_ hcs
    · obtain ⟨i, hi, rfl⟩ := List.mem_map.1 hx
      exact (hA i (List.mem_range.1 hi)).1
    · have hL : (((List.range len).map A).map enc).length = len := by simp
      have := RelT.lsl (S := All W) (w := W) E (((List.range len).map A).map enc) g o m ((List.range (len * E)).map fun q => (W.cell? ⟨g, o + q, none⟩).getD undef) hlt (by rw [hL]; exact hl) hsz (fun b hb => ?_) (by simp) (fun j c hj => ?_) (fun j c b hj hb => ?_)
      · rw [hL] at this
        exact this
      · obtain ⟨x, hx, hbx⟩ := List.mem_flatMap.1 hb
        obtain ⟨y, hy, rfl⟩ := List.mem_map.1 hx
        obtain ⟨i, hi, rfl⟩ := List.mem_map.1 hy
        obtain ⟨_, _, _, _, h3, _⟩ := hA i (List.mem_range.1 hi)
        exact h3 b hbx
      · have hq : j < len * E := by
          have := (List.getElem?_eq_some_iff.1 hj).1
          simpa using this
        obtain ⟨s1, s2, s3⟩ := split j hq
        obtain ⟨c', b', h1, _, _⟩ := cell _ s1 _ s2
        rw [← s3] at h1
        simp [hq, h1] at hj
        rw [h1, hj]
      · have hq : j < len * E := by
          have := (List.getElem?_eq_some_iff.1 hj).1
          simpa using this
        obtain ⟨s1, s2, s3⟩ := split j hq
        obtain ⟨c', b', h1, h2, h3⟩ := cell _ s1 _ s2
        have hf := hflat _ s1 _ s2
        rw [← s3] at h1 hf
        rw [hf, h2] at hb
        cases hb
        simp [hq, h1] at hj
        subst hj
        exact h3

/-! ### Arguments -/

/-- What an argument of a type is. -/
def OpV (P : Program) (t : TypeId) (Q : AV → Prop) : Prop :=
  ∀ {H : Type} {ec : TypeId × Value → H} {W : World} {base : Nat} {v : Value} {d : DataW H} {ps : List MemPlace}, Value.okWide P W .any base t v → DataW.Trod ec P W 0 (fun _ => true) true t v d ps → ∃ a, Q a ∧ RelT (All W) W v a

theorem OpV.mono {P : Program} {t : TypeId} {Q Q' : AV → Prop} (h : OpV P t Q) (hQ : ∀ a, Q a → Q' a) : OpV P t Q' := fun h1 h2 => let ⟨a, q, r⟩ := h h1 h2; ⟨a, hQ a q, r⟩

theorem opV_slice {P : Program} {t e : TypeId} {R : AV → Prop} (ht : P.underlying t = some (.slice e)) (h : OpensR P t 1 (fun l => ∃ a, R a ∧ l = [a])) : OpV P t R := by
  intro H ec W base v d ps hv hd
  obtain ⟨a, len, cap, rfl⟩ := okWide_slice ht hv
  obtain ⟨fuel, hf⟩ := hd
  obtain ⟨l, ⟨x, hx, rfl⟩, _, _, _, hr⟩ := h.2 ec W fuel _ _ hf
  exact ⟨x, hx, hr 0 _ _ rfl rfl⟩

def OpVs (P : Program) : List TypeId → List (AV → Prop) → Prop
  | [], [] => True
  | t :: ts, Q :: Qs => OpV P t Q ∧ OpVs P ts Qs
  | _, _ => False

def Alls : List (AV → Prop) → List AV → Prop
  | [], [] => True
  | Q :: Qs, a :: l => Q a ∧ Alls Qs l
  | _, _ => False

theorem alls_cons {Q : AV → Prop} {Qs : List (AV → Prop)} {l : List AV} (h : Alls (Q :: Qs) l) : ∃ a l', l = a :: l' ∧ Q a ∧ Alls Qs l' := by
  cases l with
  | nil => exact h.elim
  | cons a l => exact ⟨a, l, rfl, h.1, h.2⟩

theorem alls_nil {l : List AV} (h : Alls [] l) : l = [] := by
  cases l with
  | nil => rfl
  | cons a l => exact h.elim

end Go.Own

/-
  slices.Sorted(maps.Keys(m)) at a map of the call's own with strings as keys, by the kit's contracts.
-/
namespace Go.Own
open Go.RowKit Go.Maps Go.Sort Go.Shelf Go.Proofs

def keysS {V : Type} (es : List (List UInt8 × V)) : List (List UInt8) := (es.map (·.1)).mergeSort (fun x y => decide (x ≤ y))

theorem fnOk_of {P : Program} {f : FuncId} {fn : Func} {code : Code} (hf : P.funcs[f]? = some fn) (hb : fn.body = some code) (hname : (fn.name == "runtime.NumGoroutine") = false) : FnOk P f := ⟨fn, hf, by rw [hb]; rfl, hname⟩

theorem relV_ptr0 {m : Ids} {S : Blocks} {w : World} {v : Value} {id off : Nat} (h : RelV m S w v (.ptr id off)) : ∃ g, v = .pointer (some ⟨g, off, none⟩) ∧ m id = some (.pointer (some ⟨g, 0, none⟩)) := by
  cases h with
  | t _ _ h => cases h
  | ptr _ _ g hm => exact ⟨g, rfl, hm⟩

theorem relV_map0 {m : Ids} {S : Blocks} {w : World} {v : Value} {id : Nat} (h : RelV m S w v (.map id)) : ∃ r, v = .map (some r) ∧ m id = some (.map (some r)) := by
  cases h with
  | t _ _ h => cases h
  | map _ r hm => exact ⟨r, rfl, hm⟩

theorem relV_nilm {m : Ids} {S : Blocks} {w : World} {v : Value} (h : RelV m S w v .nilm) : v = .map none := by
  cases h with
  | t _ _ h => cases h; rfl

/-- A box with one cell. -/
theorem one_cell [Tabs] {m : Ids} {S : Blocks} {w : World} {H : Heap} (hG : Good m S w H) {id e : Nat} {x : AV} (hid : lkH H id = .cells e [x]) : ∃ g c, m id = some (.pointer (some ⟨g, 0, none⟩)) ∧ g < w.heap.size ∧ w.cell? ⟨g, 0, none⟩ = some c ∧ RelV m S w c x := by
  have hb := hG.rel id
  rw [hid] at hb
  obtain ⟨g, cs, hm, hg, hl, _, hr⟩ := hb
  have hlt : 0 < cs.size := by rw [hl]; simp
  have hc : cs[0]? = some cs[0] := Array.getElem?_eq_getElem hlt
  exact ⟨g, cs[0], hm, (Array.getElem?_eq_some_iff.1 hg).1, by rw [cell_of_row w g 0 cs e (0, 0) hg, hc], hr 0 _ x hc rfl⟩

/-- maps.Keys at a map of the call's own, or nil: an iterator over a new box that holds the map. -/
theorem keys_sem [Tabs] {P : Program} {ρ : Shelf.Ren} (L : SlLaysZ.n7 P ρ) {fn : Func} {code : Code} (hf : P.funcs[ρ.f 7]? = some fn) (hb : fn.body = some code) (hname : (fn.name == "runtime.NumGoroutine") = false) {a : AV} (ha : (∃ id, a = .map id) ∨ a = .nilm) (H : Heap) (nx : Nat) :
    CallSem P (ρ.f 7) [a] H nx [] (fun r => r = ⟨.fn (.func (ρ.f 10)) [] [.ptr nx 0], [], [(nx, .cells (ρ.t 23) [a])], nx + 1⟩) := by
  refine ⟨fnOk_of hf hb hname, fun m S w H₂ vs hG _ hfree hlen hrel => ?_⟩
  match vs, hlen with
  | [v], _ =>
    have hv : RelV m S w v a := hrel 0 v a rfl rfl
    obtain ⟨mb, rfl⟩ : ∃ mb, v = .map mb := by
      rcases ha with ⟨id, rfl⟩ | rfl
      · obtain ⟨r, rfl, _⟩ := relV_map0 hv
        exact ⟨_, rfl⟩
      · exact ⟨none, relV_nilm hv⟩
    have hcall := callsIn_wide.1 (AnyZ.keys_in L Fence.wide 5 trivial rfl mb w)
    refine Calls.mono hcall ?_
    rintro e w' ⟨rfl, rfl⟩
    have hn : m nx = none := hfree nx (Nat.le_refl _) ⟨_, rfl, Nat.lt_succ_self _⟩
    have hids : ∀ i u, m i = some u → (fun i => if i = nx then some (Value.pointer (some ⟨w.heap.size, 0, none⟩)) else m i) i = some u := by
      intro i u hu
      have : i ≠ nx := by intro e; subst e; rw [hn] at hu; cases hu
      simp [this, hu]
    refine ⟨_, _, _, S, rfl, rfl, ext_new hG hn (.pointer (some ⟨w.heap.size, 0, none⟩)) _ _ rfl rfl rfl (by simp) (fun k hk => RowKit.Below.heap_alloc w _ k hk) (fun k hk => by simp [blk] at hk; omega) ?_, ?_⟩
    · refine ⟨w.heap.size, #[.map mb], by simp, heap_alloc_new w _, rfl, fun b hb => ?_, fun j c x hj hx => ?_⟩
      · simp at hb; subst hb
        rcases ha with ⟨id, rfl⟩ | rfl <;> rfl
      · cases j with
        | zero =>
          simp at hj hx
          subst hj; subst hx
          exact hv.mono hids (fun _ h => h) (fun g hg => RowKit.Below.heap_alloc w _ g (hG.ro g hg).1)
        | succ j => simp at hx
    · refine .fn _ _ _ _ _ rfl rfl (fun j c x hj => by simp at hj) (fun j c x hj hx => ?_)
      cases j with
      | zero => simp at hj hx; subst hj; subst hx; exact .ptr nx 0 _ (by simp)
      | succ j => simp at hx

/-- A map with strings as keys, as the kit reads it. -/
theorem ownsMap_of {P : Program} {kt : TypeId} (hk : P.underlying kt = some .string) {w : World} {r clock : Nat} {en : Array MapEntry} {V : Type} {es : List (List UInt8 × V)} (hr : w.heap[r]? = some (.map en clock)) (hl : en.size = es.length) (hst : MapKept.Stamped en clock)
    (hkey : ∀ (j : Nat) (x : MapEntry) (p : List UInt8 × V), en[j]? = some x → es[j]? = some p → ∃ s, x.key = .string s ∧ s.data.toList = p.1) (hlen : ∀ p ∈ es, p.1.length ≤ maxLen) (hmax : es.length ≤ maxLen) :
    ∃ (D : DataW Unit) (R : Value → Option (DataW Unit × List MemPlace)), w.ownsMap P kt R r es.length D ∧ Maps.size D = es.length ∧ (strKeys D).Perm (es.map (·.1)) := by
  let R : Value → Option (DataW Unit × List MemPlace) := fun _ => some (.nil, [])
  have key : ∀ (j : Nat) (x : MapEntry) (p : List UInt8 × V), en[j]? = some x → es[j]? = some p → WideElems.rd P kt R x = some (.string p.1, .nil) := by
    intro j x p hx hp
    obtain ⟨s, h1, h2⟩ := hkey j x p hx hp
    have hs : s.size ≤ maxLen := by
      have := hlen p (List.mem_of_getElem? hp)
      rw [← h2] at this
      exact this
    have hko : keyOf P kt x.key = some (.string p.1) := by
      rw [h1, ← h2]
      exact WideMaps.keyOf_string_mk hk hs
    simp [WideElems.rd, hko, R]
  have hmap : en.toList.map (WideElems.rg P kt R) = es.map fun p => ((.string p.1, .nil) : Lit × DataW Unit) := by
    refine List.ext_getElem (by simpa using hl) fun j h1 h2 => ?_
    have hj1 : j < en.size := by simpa using h1
    have hj2 : j < es.length := by simpa using h2
    have := key j en[j] es[j] (Array.getElem?_eq_getElem hj1) (List.getElem?_eq_getElem hj2)
    simp [WideElems.rg, this]
  refine ⟨.map ((en.toList.map (WideElems.rg P kt R)).foldr DataW.insert []), R, ⟨en, clock, hr, ⟨by omega, hst, fun x hx => ?_⟩, by omega, rfl⟩, ?_, ?_⟩
  · obtain ⟨j, hj⟩ := List.getElem?_of_mem hx
    have hj' : en[j]? = some x := by simpa using hj
    have hjl : j < es.length := by
      have := (Array.getElem?_eq_some_iff.1 hj').1
      omega
    exact ⟨_, key j x _ hj' (List.getElem?_eq_getElem hjl)⟩
  · rw [Maps.size_eq, (WideShapes.sorted_perm _).length_eq, hmap]
    simp
  · rw [hmap]
    show (List.map (fun (p : Lit × DataW Unit) => strOf p.1) _).Perm _
    refine ((WideShapes.sorted_perm _).map _).trans ?_
    rw [List.map_map]
    exact List.Perm.of_eq (List.map_congr_left fun p _ => rfl)

end Go.Own

/-
  slices.Sorted(maps.Keys(m)) at a map with ints as keys, of the call's own or lent, by the kit's contracts.
-/
namespace Go.Own
open Go.RowKit Go.Maps Go.Sort Go.Shelf Go.Proofs

def keysI {V : Type} (es : List (Int × V)) : List Int := (es.map (·.1)).mergeSort leI

end Go.Own

/-
  What a tree says may be said more loosely, also inside structs and lists.
-/
namespace Go.Own

/-- A list of structs. -/
theorem LeT.lsl {E : Nat} {l r : List AV} (hlen : r.length = l.length) (hE : ∀ x ∈ r, x.cells.length = E) (h1 : ∀ a ∈ flat r, a.one = true) (h : LeTs (flat l) (flat r)) : LeT (.lsl E l) (.lsl E r) := fun S w v hr => by
  have e0 : l = [] → r = [] := fun e => List.eq_nil_of_length_eq_zero (by rw [hlen, e]; rfl)
  cases hr with
  | lslnil => rw [e0 rfl]; exact .lslnil E
  | lslz _ a => rw [e0 rfl]; exact .lslz E a
  | lsl _ _ g o cap cs hs hcap hE' h1' hl hc hrel =>
    rw [← hlen]
    exact .lsl E r g o cap cs hs (by rw [hlen]; exact hcap) hE h1 (by rw [hlen]; exact hl) hc (fun j c b hj hb => by
      obtain ⟨a, ha, hab⟩ := h.get hb
      exact hab S w c (hrel j c a hj ha))

theorem APure.leT [Tabs] {P : Program} {f : FuncId} {args : List AV} {a b : AV} (h : APure P f args (fun rs => rs = [.val a])) (hl : LeT a b) : APure P f args (fun rs => rs = [.val b]) := by
  refine ⟨h.1, fun S w vs hS hT hv => (h.2 S w vs hS hT hv).mono fun _ _ ⟨us, rs, S', he, hR, hL⟩ => ⟨us, [.val b], S', he, rfl, ?_⟩⟩
  subst hR
  refine ⟨hL.len, fun j u r hu hr => ?_, hL.below, hL.ros, hL.fresh, hL.lt, fun i u b' k hu hb hk => ?_⟩
  · cases j with
    | zero =>
      simp at hr
      subst hr
      exact hl _ _ _ (hL.rel 0 u _ hu rfl)
    | succ j => simp at hr
  · cases i with
    | zero => simp at hb
    | succ i => simp at hb

end Go.Own

/-
  Functions that write what they are handed: their contracts, out of their code; and calls of them.
-/
namespace Go.Own

def numH : List AB → Nat → Heap
  | [], _ => []
  | b :: bs, i => (i, b) :: numH bs (i + 1)

def livesB : List AB → Bool
  | [] => true
  | b :: bs => match b.live && b.trees with
    | true => livesB bs
    | false => false
/-- What a call leaves that writes the objects it was handed. -/
structure LeftIO [Tabs] (m : Ids) (S : Blocks) (w : World) (bs : List AB) (us : List Value) (rs : List AR) (bs' : List AB) (S' : Blocks) (w' : World) : Prop where
  len : us.length = rs.length
  blen : bs'.length = bs.length
  lives : livesB bs' = true
  rel : ∀ (j : Nat) (u : Value) (r : AR), us[j]? = some u → rs[j]? = some r → RelR S' w' w.heap.size u r
  far : Far (own m (numH bs 0)) w w'
  ros : ∀ g, S g → S' g
  fresh : ∀ g, S' g → S g ∨ w.heap.size ≤ g
  good : Good m S' w' (numH bs' 0)
  apart : ∀ (i : Nat) (u : Value) (b : AB) (k : Nat), us[i]? = some u → rs[i]? = some (.new b) → blk u = some k → ¬ S' k ∧ ∀ (j : Nat) (u' : Value) (b' : AB), us[j]? = some u' → rs[j]? = some (.new b') → blk u' = some k → i = j

/-- The contract of a function that writes objects 0, 1, .. that it is handed. -/
def AIO [Tabs] (P : Program) (f : FuncId) (args : List AV) (bs : List AB) (R : List AB → List AR → Prop) : Prop :=
  FnOk P f ∧ ∀ (m : Ids) (S : Blocks) (w : World) (vs : List Value), Good m S w (numH bs 0) → (∀ i, bs.length ≤ i → m i = none) → vs.length = args.length →
    (∀ (j : Nat) (v : Value) (a : AV), vs[j]? = some v → args[j]? = some a → RelV m S w v a) →
    Calls P f vs.toArray w fun e w' => ∃ us rs bs' S', e = .returned (retVal us) ∧ R bs' rs ∧ LeftIO m S w bs us rs bs' S' w'

theorem AIO.mono [Tabs] {P : Program} {f : FuncId} {args : List AV} {bs : List AB} {R R' : List AB → List AR → Prop} (h : AIO P f args bs R) (hr : ∀ b rs, R b rs → R' b rs) : AIO P f args bs R' :=
  ⟨h.1, fun m S w vs h1 h2 h3 h4 => (h.2 m S w vs h1 h2 h3 h4).mono fun _ _ ⟨us, rs, b, S', he, hR, hl⟩ => ⟨us, rs, b, S', he, hr _ _ hR, hl⟩⟩

/-- The objects at the end. -/
def ioK (H : Heap) : Nat → Nat → List AB → (List AB → Prop) → Prop
  | 0, _, acc, k => k acc.reverse
  | n + 1, i, acc, k => match (lkH H i).live && (lkH H i).trees with
    | true => ioK H n (i + 1) (lkH H i :: acc) k
    | false => False
def usedN : Nat → List Nat
  | 0 => []
  | n + 1 => n :: usedN n
def retIO (T : Tab) (rs : Array ResultVar) (n : Nat) (R : List AB → List AR → Prop) : Exit → St → Prop
  | .normal, st => ioK st.heap n 0 [] fun bs => resK T rs.toList st [] (usedN n) fun rs => R bs rs
  | .ret, st => ioK st.heap n 0 [] fun bs => resK T rs.toList st [] (usedN n) fun rs => R bs rs
  | _, _ => False

theorem live_some {m : Ids} {S : Blocks} {w : World} {id : Nat} {b : AB} (h : RelB m S w id b) (hl : b.live = true) : ∃ v, m id = some v := by
  cases b with
  | dead => simp [AB.live] at hl
  | cells e l => obtain ⟨g, cs, hm, _⟩ := h; exact ⟨_, hm⟩
  | lst e E l => obtain ⟨v, vs, hm, _⟩ := h; exact ⟨_, hm⟩
  | row e E enc d xs => obtain ⟨v, vs, hm, _⟩ := h; exact ⟨_, hm⟩
  | smap ev dv es => obtain ⟨r, en, c, hm, _⟩ := h; exact ⟨_, hm⟩
  | imap k ev dv es => obtain ⟨r, en, c, hm, _⟩ := h; exact ⟨_, hm⟩
  | arr e k n f => obtain ⟨g, cs, hm, _⟩ := h; exact ⟨_, hm⟩
  | que e E enc d xs => obtain ⟨g, o, cap, cur, hm, _⟩ := h; exact ⟨_, hm⟩

end Go.Own

/-
  A call of a function that writes what it is handed.
-/
namespace Go.Own

/-- What the callee gets for what the caller has: an object that it may write, or something lent. -/
inductive BorIO (H : Heap) (ids : List Nat) : AV → AV → List Nat → Prop
  | lend (a a' : AV) (t : List Nat) (h : Lend H a a' t) : BorIO H ids a a' t
  | map (i id : Nat) (h : ids[i]? = some id) : BorIO H ids (.map id) (.map i) []
  | ptr (i id off : Nat) (h : ids[i]? = some id) : BorIO H ids (.ptr id off) (.ptr i off) []
  | own (i id : Nat) (h : ids[i]? = some id) : BorIO H ids (.own id) (.own i) []
  | fnp (f : Fn) (i id off : Nat) (h : ids[i]? = some id) : BorIO H ids (.fn f [.ptr id off] []) (.fn f [.ptr i off] []) []

def zipH : List Nat → List AB → List (Nat × AB)
  | i :: is, b :: bs => (i, b) :: zipH is bs
  | _, _ => []

def nodupB : List Nat → Bool
  | [] => true
  | i :: is => match notIn i is with
    | true => nodupB is
    | false => false
def sameObjs (H : Heap) : List Nat → List AB → Prop
  | i :: is, b :: bs => lkH H i = b ∧ sameObjs H is bs
  | [], [] => True
  | _, _ => False
def disjB (t ids : List Nat) : Bool := t.all fun i => notIn i ids

end Go.Own

/-
  Results that are told more loosely; what a new list of structs is as a row.
-/
namespace Go.Own

theorem LeT.trans {a b c : AV} (h : LeT a b) (k : LeT b c) : LeT a c := fun S w v hr => k S w v (h S w v hr)

/-- A new list is a new row. -/
theorem APure.rowT [Tabs] {P : Program} {f : FuncId} {args : List AV} {e : TypeId} {E : Nat} {l : List AV} {T : Type} {enc : T → AV} {d : T} {xs : List T} (h : APure P f args (fun rs => rs = [.new (.lst e E l)]))
    (hlen : (xs.map enc).length = l.length) (hE : ∀ x ∈ xs.map enc, x.cells.length = E) (h1 : ∀ a ∈ flat (xs.map enc), a.one = true) (ht : LeTs (flat l) (flat (xs.map enc))) : APure P f args (fun rs => rs = [.new (.row e E enc d xs)]) := by
  refine ⟨h.1, fun S w vs hS hT hv => (h.2 S w vs hS hT hv).mono ?_⟩
  rintro en w' ⟨us, rs, S', he, rfl, hL⟩
  refine ⟨us, _, S', he, rfl, ⟨by rw [hL.len]; rfl, fun j u r hu hr => ?_, hL.below, hL.ros, hL.fresh, hL.lt, fun i u b k hu hb hk => ?_⟩⟩
  · match j, hr with
    | 0, hr =>
      simp at hr
      subst hr
      obtain ⟨_, h2, h3⟩ := hL.rel 0 u _ hu rfl
      refine ⟨rfl, h2, fun n => ?_⟩
      obtain ⟨v, vs, hm, hr⟩ := h3 n
      exact ⟨v, vs, hm, hr.leT hlen hE h1 ht⟩
  · match i, hb with
    | 0, _ =>
      obtain ⟨a1, a2⟩ := hL.apart 0 u _ k hu rfl hk
      refine ⟨a1, fun j u' b' hu' hb' hk' => ?_⟩
      match j, hb' with
      | 0, _ => rfl

/-! ### Cells that nobody asks for -/

end Go.Own

/-
  Calls that are walked in the caller's own state: contracts of functions that write what they are handed, and may put new objects in its place.
-/
namespace Go.Own

def okI (t : List Nat) (i : Nat) : Bool := !notIn i t
theorem okI_spec {t : List Nat} {i : Nat} (h : okI t i = true) : i ∈ t := by
  induction t with
  | nil => simp [okI, notIn] at h
  | cons j t ih =>
    by_cases e : i = j
    · subst e; exact List.mem_cons_self
    · refine List.mem_cons_of_mem _ (ih ?_)
      unfold okI notIn at h
      have : Nat.beq i j = false := by cases hb : Nat.beq i j with | false => rfl | true => exact (e (Nat.eq_of_beq_eq_true hb)).elim
      rw [this] at h
      exact h

/-- What names objects of t only. -/
def okA0 (t : List Nat) : AV → Bool
  | .ptr i _ => okI t i
  | .eptr i _ _ _ => okI t i
  | .own i => okI t i
  | .pre i _ => okI t i
  | .part i _ _ _ => okI t i
  | .map i => okI t i
  | .qptr i _ _ => okI t i
  | .csl i _ => okI t i
  | a => a.tree1
def okA (t : List Nat) : AV → Bool
  | .agg l => l.all (okA0 t)
  | .tup l => l.all (okA0 t)
  | .fn _ l l' => l.all (okA0 t) && l'.all (okA0 t)
  | a => okA0 t a

theorem relV_ids0 {m m2 : Ids} {S : Blocks} {w : World} {v : Value} {a : AV} {t : List Nat} (h : RelV m S w v a) (ho : okA0 t a = true) (hm : ∀ i ∈ t, ∀ u, m i = some u → m2 i = some u) : RelV m2 S w v a := by
  cases a with
  | ptr i o => cases h with | t _ _ h => cases h | ptr _ _ g hi => exact .ptr i o g (hm i (okI_spec ho) _ hi)
  | eptr i E j o => cases h with | t _ _ h => cases h | eptr _ _ _ _ g n c hi => exact .eptr i E j o g n c (hm i (okI_spec ho) _ hi)
  | own i => cases h with | t _ _ h => cases h | own _ n c a hi => exact .own i n c a (hm i (okI_spec ho) _ hi)
  | pre i l => cases h with | t _ _ h => cases h | pre _ _ n c a hi hle => exact .pre i l n c a (hm i (okI_spec ho) _ hi) hle
  | part i E o l => cases h with
    | t _ _ h => cases h
    | part _ _ _ _ g n cap c hi hle hc => exact .part i E o l g n cap c (hm i (okI_spec ho) _ hi) hle hc
    | partE _ _ _ c g n cap hi => exact .partE i E o c g n cap (hm i (okI_spec ho) _ hi)
    | partN => exact .partN i E o
  | map i => cases h with | t _ _ h => cases h | map _ r hi => exact .map i r (hm i (okI_spec ho) _ hi)
  | qptr i E j => cases h with | t _ _ h => cases h | qptr _ _ _ g o n c hi => exact .qptr i E j g o n c (hm i (okI_spec ho) _ hi)
  | csl i n => cases h with | t _ _ h => cases h | csl _ _ g hi => exact .csl i n g (hm i (okI_spec ho) _ hi)
  | _ => exact .t _ _ (h.toT1 ho)

theorem relV_ids {m m2 : Ids} {S : Blocks} {w : World} {v : Value} {a : AV} {t : List Nat} (h : RelV m S w v a) (ho : okA t a = true) (hm : ∀ i ∈ t, ∀ u, m i = some u → m2 i = some u) : RelV m2 S w v a := by
  cases a with
  | agg l =>
    have hall := List.all_eq_true.1 (show l.all (okA0 t) = true from ho)
    cases h with
    | t _ _ h => exact .t _ _ h
    | agg cs _ hl hr => exact .agg cs l hl fun j c a hj ha => relV_ids0 (hr j c a hj ha) (hall a (List.mem_of_getElem? ha)) hm
  | tup l =>
    have hall := List.all_eq_true.1 (show l.all (okA0 t) = true from ho)
    cases h with
    | t _ _ h => exact .t _ _ h
    | tup cs _ hl hr => exact .tup cs l hl fun j c a hj ha => relV_ids0 (hr j c a hj ha) (hall a (List.mem_of_getElem? ha)) hm
  | fn f l l' =>
    have ho' : (l.all (okA0 t) && l'.all (okA0 t)) = true := ho
    rw [Bool.and_eq_true] at ho'
    have h1 := List.all_eq_true.1 ho'.1
    have h2 := List.all_eq_true.1 ho'.2
    cases h with
    | t _ _ h => exact .t _ _ h
    | fn _ fs cs _ _ hl hl' r1 r2 => exact .fn f fs cs l l' hl hl' (fun j c a hj ha => relV_ids0 (r1 j c a hj ha) (h1 a (List.mem_of_getElem? ha)) hm) (fun j c a hj ha => relV_ids0 (r2 j c a hj ha) (h2 a (List.mem_of_getElem? ha)) hm)
  | _ => exact relV_ids0 h ho hm

def okB (t : List Nat) : AB → Bool
  | .cells _ l => l.all (okA t)
  | _ => true
theorem relB_ids {m m2 : Ids} {S : Blocks} {w : World} {id : Nat} {b : AB} {t : List Nat} (h : RelB m S w id b) (ho : okB t b = true) (hid : id ∈ t) (hm : ∀ i ∈ t, ∀ u, m i = some u → m2 i = some u) : RelB m2 S w id b := by
  cases b with
  | dead => trivial
  | cells e l =>
    have hall := List.all_eq_true.1 (show l.all (okA t) = true from ho)
    obtain ⟨g, cs, hmi, hg, hl, h1, hr⟩ := h
    exact ⟨g, cs, hm _ hid _ hmi, hg, hl, h1, fun j c a p q => relV_ids (hr j c a p q) (hall a (List.mem_of_getElem? q)) hm⟩
  | lst e E l => obtain ⟨v, vs, hmi, hr⟩ := h; exact ⟨v, vs, hm _ hid _ hmi, hr⟩
  | row e E enc d xs => obtain ⟨v, vs, hmi, hr⟩ := h; exact ⟨v, vs, hm _ hid _ hmi, hr⟩
  | smap ev dv es => obtain ⟨r, en, c, hmi, hr⟩ := h; exact ⟨r, en, c, hm _ hid _ hmi, hr⟩
  | imap k ev dv es => obtain ⟨r, en, c, hmi, hr⟩ := h; exact ⟨r, en, c, hm _ hid _ hmi, hr⟩
  | arr e k n f => obtain ⟨g, cs, hmi, hr⟩ := h; exact ⟨g, cs, hm _ hid _ hmi, hr⟩
  | que e E enc d xs => obtain ⟨g, o, c, cur, hmi, hr⟩ := h; exact ⟨g, o, c, cur, hm _ hid _ hmi, hr⟩

/-- Some objects of a heap. -/
def restr (H : Heap) : List Nat → Heap
  | [] => []
  | i :: t => (i, lkH H i) :: restr H t
theorem lkH_restr {H : Heap} : ∀ {t : List Nat} {i : Nat}, i ∈ t → lkH (restr H t) i = lkH H i
  | [], i, h => by simp at h
  | j :: t, i, h => by
    show lkH ((j, lkH H j) :: restr H t) i = _
    rw [lkH_cons]
    by_cases e : j = i
    · subst e; rw [if_pos rfl]
    · rw [if_neg e]
      rcases List.mem_cons.1 h with h | h
      · exact (e h.symm).elim
      · exact lkH_restr h
theorem lkH_restr_app {H H₂ : Heap} : ∀ {t : List Nat} {i : Nat}, i ∉ t → lkH (restr H t ++ H₂) i = lkH H₂ i
  | [], i, h => rfl
  | j :: t, i, h => by
    show lkH ((j, lkH H j) :: (restr H t ++ H₂)) i = _
    rw [lkH_cons, if_neg (fun e => h (by rw [e]; exact List.mem_cons_self)), lkH_restr_app (fun hm => h (List.mem_cons_of_mem _ hm))]
theorem lkH_restr_app' {H H₂ : Heap} : ∀ {t : List Nat} {i : Nat}, i ∈ t → lkH (restr H t ++ H₂) i = lkH H i
  | [], i, h => by simp at h
  | j :: t, i, h => by
    show lkH ((j, lkH H j) :: (restr H t ++ H₂)) i = _
    rw [lkH_cons]
    by_cases e : j = i
    · subst e; rw [if_pos rfl]
    · rw [if_neg e]
      rcases List.mem_cons.1 h with h | h
      · exact (e h.symm).elim
      · exact lkH_restr_app' h
theorem lkH_restr_no {H : Heap} {t : List Nat} {i : Nat} (h : i ∉ t) : lkH (restr H t) i = .dead := by
  have := lkH_restr_app (H := H) (H₂ := []) h
  rw [List.append_nil] at this
  rw [this]
  rfl

def resI (env : Env) : List ResultVar → List AV → (List AV → Prop) → Prop
  | [], acc, k => k acc.reverse
  | .tmp t :: r, acc, k => resI env r (lk env t :: acc) k
  | .cell .. :: _, _, _ => False
theorem resI_sound {P : Program} {m : Ids} {S : Blocks} {w : World} {env : Env} {a : Act} (hrel : ∀ s, RelV m S w (a.tmps.getD s undef) (lk env s)) : ∀ (rs : List ResultVar) (acc : List AV) (k : List AV → Prop), resI env rs acc k →
    ∃ l, k (acc.reverse ++ l) ∧ l.length = rs.length ∧ (∀ r ∈ rs, SlotRun P a w r) ∧ ∀ (j : Nat) (u : Value) (x : AV), (slotVals P rs a w)[j]? = some u → l[j]? = some x → RelV m S w u x
  | [], acc, k, h => ⟨[], by simpa [resI] using h, rfl, by simp, fun j u x hu => by simp [slotVals] at hu⟩
  | .tmp t :: r, acc, k, h => by
    obtain ⟨l, h1, h2, h3, h4⟩ := resI_sound (P := P) hrel r (lk env t :: acc) k h
    refine ⟨lk env t :: l, by simpa using h1, by simp [h2], fun r0 hr0 => ?_, fun j u x hu hx => ?_⟩
    · rcases List.mem_cons.1 hr0 with rfl | hr0
      · trivial
      · exact h3 r0 hr0
    · cases j with
      | zero =>
        simp [slotVals, slotVal] at hu hx
        subst hu
        subst hx
        have := hrel t
        simpa using this
      | succ j => exact h4 j u x (by simpa [slotVals] using hu) (by simpa using hx)
  | .cell .. :: _, _, _, h => h.elim

def allB : List Bool → Bool
  | [] => true
  | b :: l => match b with
    | true => allB l
    | false => false
theorem allB_spec : ∀ {l : List Bool}, allB l = true → ∀ b ∈ l, b = true
  | [], _, b, hb => by simp at hb
  | a :: l, h, b, hb => by
    unfold allB at h
    split at h
    · rcases List.mem_cons.1 hb with rfl | hb
      · rfl
      · exact allB_spec h b hb
    · cases h

/-- What is left at the end: the touched objects and the new ones, and the results. -/
def endI (rs : List ResultVar) (t news : List Nat) (nx : Nat) (Rr : Res → Prop) (st : St) : Prop :=
  allB (news.map fun i => Nat.ble nx i && Nat.blt i st.nx) = true ∧ allB ((t ++ news).map fun i => okB (t ++ news) (lkH st.heap i)) = true ∧ Nat.ble nx st.nx = true ∧
    resI st.env rs [] fun vs => allB (vs.map (okA0 (t ++ news))) = true ∧ Rr ⟨valR vs, t, restr st.heap (t ++ news), st.nx⟩
def retI (rs : Array ResultVar) (t news : List Nat) (nx : Nat) (Rr : Res → Prop) : Exit → St → Prop
  | .normal, st => endI rs.toList t news nx Rr st
  | .ret, st => endI rs.toList t news nx Rr st
  | _, _ => False

end Go.Own

/-
  strconv.Itoa, strconv.Atoi, strings.IndexByte, strings.CutPrefix: contracts of functions of Go's library that only compute.
-/
namespace Go.Own
open Go.Proofs Go.Shelf Go.RowKit

/-- A value that owns no memory, wherever it is looked at. -/
def Plain (u : Value) (a : AV) : Prop := ∀ S w, RelT S w u a

theorem apure_plain [Tabs] {P : Program} {f : FuncId} {args : List AV} {R : List AV → Prop} (hfn : FnOk P f)
    (h : ∀ (S : Blocks) (w : World) (vs : List Value), TabAt S w → RelTs S w vs args → Calls P f vs.toArray w fun e w' => ∃ us l, e = .returned (retVal us) ∧ R l ∧ us.length = l.length ∧ (∀ (j : Nat) (u : Value) (a : AV), us[j]? = some u → l[j]? = some a → Plain u a) ∧ Below w.heap.size w w') :
    APure P f args (fun rs => ∃ l, R l ∧ rs = l.map .val) := by
  refine ⟨hfn, fun S w vs hS hT hv => (h S w vs hT hv).mono ?_⟩
  rintro e w' ⟨us, l, he, hR, hl, hrel, hb⟩
  refine ⟨us, l.map .val, S, he, ⟨l, hR, rfl⟩, ⟨by rw [hl, List.length_map], fun j u r hu hr => ?_, hb, fun g h => h, fun g h => .inl h, fun g hg => Nat.lt_of_lt_of_le (hS g hg) hb.size, fun i u b k hu hr hk => ?_⟩⟩
  · rw [List.getElem?_map, Option.map_eq_some_iff] at hr
    obtain ⟨a, ha, rfl⟩ := hr
    exact hrel j u a hu ha S w'
  · rw [List.getElem?_map, Option.map_eq_some_iff] at hr
    obtain ⟨a, _, h⟩ := hr
    cases h

theorem plain_int (k : IntKind) (n : Int) : Plain (.int k n) (.int k n) := fun _ _ => .int k n
variable {P : Program} {ρ : Go.Shelf.Ren}

def atoiR (s : List UInt8) : List AV :=
  match Lib.atoiAll s with
  | .ok v => [.int .i64 v, .ifc true]
  | .range => [.int .i64 (Lib.atoiSat s), .ifc false]
  | _ => [.int .i64 0, .ifc false]

theorem index_ok [Tabs] (L : Lays.n137 P ρ) (hfn : FnOk P (ρ.f 137)) (s : List UInt8) (c : Int) : APureV P (ρ.f 137) [.str s, .int .u8 c] (.int .i64 (Lib.indexByte s c.toNat.toUInt8)) := by
  refine APure.mono (apure_plain (R := fun l => l = [.int .i64 (Lib.indexByte s c.toNat.toUInt8)]) hfn fun S w vs hT hv => ?_) (by rintro rs ⟨l, rfl, rfl⟩; rfl)
  obtain ⟨hl, hr⟩ := hv
  match vs, hl with
  | [v, v2], _ =>
    have h1 := hr 0 v _ rfl rfl
    have h2 := hr 1 v2 _ rfl rfl
    cases h1 with
    | str q _ hq =>
      cases h2
      refine (Any.strings_IndexByte L q c w).mono ?_
      rintro e w' ⟨rfl, rfl⟩
      refine ⟨[_], _, rfl, rfl, rfl, fun j u a hu ha => ?_, Below.refl _ _⟩
      match j, hu, ha with
      | 0, hu, ha => simp at hu ha; subst hu; subst ha; rw [hq]; exact plain_int _ _

end Go.Own

/-
  (*strings.Builder).copyCheck, over a builder of the caller's own.
-/
namespace Go.Own
open Go.Proofs Go.Shelf Go.RowKit

variable {P : Program}

end Go.Own

/-
  A call that writes what it is handed, and ends in one way: of use in drawn regions as well.
-/
namespace Go.Own

end Go.Own

/-
  A call walked in the caller's own state, at any number of objects; slices.Collect at what maps.Keys handed back.
-/
namespace Go.Own

/-- The same for a call at any number: what the function makes is its own, and gone with it. -/
theorem inl_any [Tabs] {C : Cx} (hT : CxOk C) {f : FuncId} {fn : Func} {code : Code} {avs : List AV} {H : Heap} {nx : Nat} (t : List Nat) {L : Heap} {nx0 : Nat} {Rr : Res → Prop} (hf : C.P.funcs[f]? = some fn) (hb : fn.body = some code) (hname : (fn.name == "runtime.NumGoroutine") = false)
    (hN : C.N = fn.ntmps) (hle : avs.length ≤ fn.ntmps) (hres : fn.results.size ≤ 4)
    (hL : restr H t = L) (hlive : allB (t.map fun i => (lkH L i).live && okB t (lkH L i) && Nat.blt i nx0 && Nat.blt i C.pn) = true) (hav : allB (avs.map (okA t)) = true)
    (h : evCode C code ⟨argEnv avs 0, L, nx0⟩ (retI fn.results t [] nx0 Rr)) : CallSem C.P f avs H nx t (fun r => ∃ n, Rr ⟨r.v, r.touch, r.wr, n⟩ ∧ r.nx = nx) := by
  have hLk : ∀ i ∈ t, lkH L i = lkH H i := fun i hi => by rw [← hL]; exact lkH_restr hi
  refine ⟨⟨fn, hf, by rw [hb]; rfl, hname⟩, fun m S w H₂ vs hG ht hfree hlen hrel => calls_of_wp hf hb ?_⟩
  have ht1 : ∀ i ∈ t, (lkH H i).live = true ∧ okB t (lkH H i) = true ∧ i < nx0 ∧ i < C.pn := fun i hi => by
    have := allB_spec hlive _ (List.mem_map_of_mem (f := fun i => (lkH L i).live && okB t (lkH L i) && Nat.blt i nx0 && Nat.blt i C.pn) hi)
    simp only [Bool.and_eq_true, hLk i hi] at this
    exact ⟨this.1.1.1, this.1.1.2, Nat.blt_eq.mp this.1.2, Nat.blt_eq.mp this.2⟩
  let mc : Ids := fun i => if i ∈ t then m i else none
  have hmc : ∀ i, i ∈ t → mc i = m i := fun i hi => if_pos hi
  have hmn : ∀ i, i ∉ t → mc i = none := fun i hi => if_neg hi
  have hlk : ∀ i, i ∈ t → lkH (restr H t) i = lkH H₂ i := fun i hi => by rw [lkH_restr hi, ht i hi]
  have hmt : ∀ i, i ∈ t → ∃ v, m i = some v := fun i hi => live_some (hG.rel i) (by rw [ht i hi]; exact (ht1 i hi).1)
  have hownc : ∀ k, own mc (restr H t) k → ∃ i, i ∈ t ∧ (lkH H₂ i).live = true ∧ ∃ v, m i = some v ∧ blk v = some k := by
    rintro k ⟨i, v, hl, hv, hk⟩
    have hi : i ∈ t := Classical.byContradiction fun h => by rw [hmn i h] at hv; cases hv
    exact ⟨i, hi, by rw [ht i hi]; exact (ht1 i hi).1, v, by rw [← hmc i hi]; exact hv, hk⟩
  have hGc : Good mc S w (restr H t) := by
    have up : ∀ i v, (lkH (restr H t) i).live = true → mc i = some v → i ∈ t ∧ (lkH H₂ i).live = true ∧ m i = some v := fun i v hl hv => by
      have hi : i ∈ t := Classical.byContradiction fun h => by rw [hmn i h] at hv; cases hv
      exact ⟨hi, by rw [← hlk i hi]; exact hl, by rw [← hmc i hi]; exact hv⟩
    refine ⟨fun i => ?_, fun i j vi vj k hli hlj hvi hvj hki hkj => ?_, fun g hg => ⟨(hG.ro g hg).1, fun i v hl hv => ?_⟩, hG.tab⟩
    · by_cases hi : i ∈ t
      · rw [hlk i hi]
        refine relB_ids (t := t) (hG.rel i) (by rw [ht i hi]; exact (ht1 i hi).2.1) hi fun j hj u hu => by rw [hmc j hj]; exact hu
      · rw [lkH_restr_no hi]; trivial
    · obtain ⟨_, l1, e1⟩ := up i vi hli hvi
      obtain ⟨_, l2, e2⟩ := up j vj hlj hvj
      exact hG.sep i j vi vj k l1 l2 e1 e2 hki hkj
    · obtain ⟨_, l1, e1⟩ := up i v hl hv
      exact (hG.ro g hg).2 i v l1 e1
  let F : Fr := ⟨w, own mc (restr H t), S, mc⟩
  have hfits : F.fits C.pn := fun i v hi => by
    have : i ∈ t := Classical.byContradiction fun h => by
      have h2 : mc i = some v := hi
      rw [hmn i h] at h2
      cases h2
    exact (ht1 i this).2.2.2
  have hrel0 : Rel F C.N ⟨argEnv avs 0, restr H t, nx0⟩ { tmps := vs.toArray ++ Array.replicate (fn.ntmps - vs.toArray.size) undef, defers := [] } w := by
    refine ⟨mc, S, ⟨hGc, fun i hi => hmn i fun hm => by have := (ht1 i hm).2.2.1; have h' : nx0 ≤ i := hi; omega, Far.refl _ _, fun k hk => .inl hk, fun g hg => .inl hg, fun g hg => hg, fun i v hi => hi⟩, by simp; omega, rfl, fun s => ?_⟩
    rw [lk_argEnv, if_pos (Nat.zero_le _), Nat.sub_zero]
    by_cases hs : s < avs.length
    · have h1 : avs[s]? = some (avs.getD s .undef) := by simp [List.getD, List.getElem?_eq_getElem hs]
      have h2 : vs[s]? = some ((vs.toArray ++ Array.replicate (fn.ntmps - vs.toArray.size) undef).getD s undef) := by
        have : s < vs.length := by omega
        simp [Array.getElem?_append, this]
      refine relV_ids (t := t) (hrel s _ _ h2 h1) (allB_spec hav _ (List.mem_map_of_mem (List.mem_of_getElem? h1))) fun j hj u hu => by rw [hmc j hj]; exact hu
    · have : avs.getD s .undef = .undef := by simp [List.getD, List.getElem?_eq_none (by omega : avs.length ≤ s)]
      rw [this]
      exact .t _ _ (.undef _)
  refine wp_mono (evCode_sound hT (F := F) hfits code _ _ (hL ▸ h) _ w hrel0) fun e a' w' ⟨st', ⟨m', S', hc, hs, hd, hr⟩, hq⟩ => ?_
  have fin : endI fn.results.toList t [] nx0 Rr st' → a'.defers = [] ∧ ∃ v, (results fn a'.tmps).run C.P w' = .ok v w' ∧ ∃ (v' : Value) (r : Res) (m' : Ids) (S' : Blocks), Ending.returned v = .returned v' ∧ (∃ n, Rr ⟨r.v, r.touch, r.wr, n⟩ ∧ r.nx = nx) ∧ Ext m S w H₂ nx r.nx m' S' w' (r.wr ++ H₂) ∧ RelV m' S' w' v' r.v := by
    rintro ⟨_, hobjs, _, hq⟩
    obtain ⟨l, ⟨hl0, hR⟩, hll, hsr, hlr⟩ := resI_sound (P := C.P) hr _ _ _ hq
    rw [List.reverse_nil, List.nil_append] at hl0 hR
    rw [List.append_nil] at hobjs hl0 hR
    have hob : ∀ i ∈ t, okB t (lkH st'.heap i) = true := fun i hi => allB_spec hobjs _ (List.mem_map_of_mem (f := fun i => okB t (lkH st'.heap i)) hi)
    have hm't : ∀ i ∈ t, ∃ v, m i = some v ∧ m' i = some v := fun i hi => by
      obtain ⟨v, hv⟩ := hmt i hi
      exact ⟨v, hv, hc.pins i v (by show mc i = some v; rw [hmc i hi]; exact hv)⟩
    have hmk : ∀ i ∈ t, ∀ u, m' i = some u → m i = some u := fun i hi u hu => by
      obtain ⟨v, e0, e1⟩ := hm't i hi
      rw [e1] at hu
      cases hu
      exact e0
    have hkm : ∀ i ∈ t, ∀ u, m i = some u → m' i = some u := fun i hi u hu => by
      obtain ⟨v, e0, e1⟩ := hm't i hi
      rw [e0] at hu
      cases hu
      exact e1
    have hF0 : ∀ k, own mc (restr H t) k → own m H₂ k := fun k hk => by
      obtain ⟨i, _, h2, v, h3, h4⟩ := hownc k hk
      exact ⟨i, v, h2, h3, h4⟩
    have hnF : ∀ i v k, i ∉ t → (lkH H₂ i).live = true → m i = some v → blk v = some k → ¬ own mc (restr H t) k := fun i v k hi hl hv hk ho => by
      obtain ⟨j, h1, h2, u, h3, h4⟩ := hownc k ho
      have := hG.sep i j v u k hl h2 hv h3 hk h4
      subst this
      exact hi h1
    have hkeep : ∀ i v k, i ∉ t → (lkH H₂ i).live = true → m i = some v → blk v = some k → w'.heap[k]? = w.heap[k]? := fun i v k hi hl hv hk =>
      hc.far.block k (hG.blk_lt hl hv hk) (hnF i v k hi hl hv hk)
    have hkeepS : ∀ g, S g → w'.heap[g]? = w.heap[g]? := fun g hg => hc.far.block g (hG.ro g hg).1 fun ho => by
      obtain ⟨j, _, h2, u, h3, h4⟩ := hownc g ho
      exact (hG.ro g hg).2 j u h2 h3 h4
    have hgood : Good m S' w' (restr st'.heap (t) ++ H₂) := by
      refine ⟨fun i => ?_, fun i j vi vj k hli hlj hvi hvj hki hkj => ?_, fun g hg => ⟨(hc.good.ro g hg).1, fun i v hl hv hk => ?_⟩, hc.good.tab⟩
      · by_cases hi : i ∈ t
        · rw [lkH_restr_app' hi]
          exact relB_ids (t := t) (hc.good.rel i) (hob i hi) hi hmk
        · rw [lkH_restr_app hi]
          by_cases hl : (lkH H₂ i).live = true
          · exact (hG.rel i).mono (fun _ _ hu => hu) hc.ro0 hkeepS fun v k _ hv hk => hkeep i v k hi hl hv hk
          · cases hb : lkH H₂ i with
            | dead => trivial
            | _ => rw [hb] at hl; exact (hl rfl).elim
      · have two : ∀ i j vi vj k, i ∈ t → j ∉ t → (lkH (restr st'.heap (t) ++ H₂) i).live = true → (lkH (restr st'.heap (t) ++ H₂) j).live = true → m i = some vi → m j = some vj → blk vi = some k → blk vj = some k → False := by
          intro i j vi vj k hi hj hli hlj hvi hvj hki hkj
          rw [lkH_restr_app' hi] at hli
          rw [lkH_restr_app hj] at hlj
          rcases hc.owns k ⟨i, vi, hli, hkm i hi vi hvi, hki⟩ with h | h
          · exact hnF j vj k hj hlj hvj hkj h
          · have := hG.blk_lt hlj hvj hkj
            have h' : w.heap.size ≤ k := h
            omega
        by_cases hi : i ∈ t
        · by_cases hj : j ∈ t
          · rw [lkH_restr_app' hi] at hli
            rw [lkH_restr_app' hj] at hlj
            exact hc.good.sep i j vi vj k hli hlj (hkm i hi vi hvi) (hkm j hj vj hvj) hki hkj
          · exact (two i j vi vj k hi hj hli hlj hvi hvj hki hkj).elim
        · by_cases hj : j ∈ t
          · exact (two j i vj vi k hj hi hlj hli hvj hvi hkj hki).elim
          · rw [lkH_restr_app hi] at hli
            rw [lkH_restr_app hj] at hlj
            exact hG.sep i j vi vj k hli hlj hvi hvj hki hkj
      · by_cases hi : i ∈ t
        · rw [lkH_restr_app' hi] at hl
          exact (hc.good.ro g hg).2 i v hl (hkm i hi v hv) hk
        · rw [lkH_restr_app hi] at hl
          rcases hc.ro g hg with h | h | h
          · exact (hG.ro g h).2 i v hl hv hk
          · exact hnF i v g hi hl hv hk h
          · have := hG.blk_lt hl hv hk
            have h' : w.heap.size ≤ g := h
            omega
    refine ⟨hd, _, run_results hsr hres, _, ⟨valR l, t, restr st'.heap t, nx⟩, m, S', rfl, ⟨st'.nx, hR, rfl⟩, ⟨fun i v hv => hv, fun i hi => rfl, hc.ro0, fun g hg => ?_, ?_, fun k hk => ?_, hgood⟩, ?_⟩
    · rcases hc.ro g hg with h | h | h
      · exact .inl h
      · exact .inr (.inl (hF0 g h))
      · exact .inr (.inr h)
    · exact ⟨hc.far.os, hc.far.tape, hc.far.output, hc.far.size, fun k hk hno => hc.far.block k hk fun ho => hno (hF0 k ho)⟩
    · obtain ⟨i, v, hl, hv, hkv⟩ := hk
      by_cases hi : i ∈ t
      · rw [lkH_restr_app' hi] at hl
        rcases hc.owns k ⟨i, v, hl, hkm i hi v hv, hkv⟩ with h | h
        · exact .inl (hF0 k h)
        · exact .inr h
      · rw [lkH_restr_app hi] at hl
        exact .inl ⟨i, v, hl, hv, hkv⟩
    · refine retVal_rel (by rw [hll]; simp [slotVals]) fun j u x hu hx => relV_ids0 (t := t) (hlr j u x hu hx) (allB_spec hl0 _ (List.mem_map_of_mem (List.mem_of_getElem? hx))) hmk
  cases e with
  | normal => exact fin hq
  | ret => exact fin hq
  | _ => exact hq.elim

theorem flatStr (enc : List UInt8 → AV) (henc : ∀ s, enc s = .str s) : ∀ l : List (List UInt8), flat (l.map enc) = l.map fun s => AV.str s
  | [] => rfl
  | s :: l => by
    have ih := flatStr enc henc l
    unfold flat at ih ⊢
    rw [List.map_cons, List.flatMap_cons, ih, henc]
    rfl

open Go.Proofs Go.Shelf Go.RowKit Go.WideShapes Go.Maps Go.Sort in
/-- slices.Collect at what maps.Keys handed back. -/
theorem collectKeys_sem [Tabs] {P : Program} {ρ ρs : Shelf.Ren} (L : SlLaysZ.n7 P ρ) (Ls : SlLaysZ.n8 P ρs)
    {fn6 : Func} {c6 : Code} (hf : P.funcs[ρs.f 8]? = some fn6) (hb : fn6.body = some c6) (hname : (fn6.name == "runtime.NumGoroutine") = false)
    (e10 : ∀ args w, (callFunc (ρ.f 10) args).run P w = .ok (.enter (ρ.f 10) args) w)
    (h23 : ρ.t 26 = ρs.t 26) {et : TypeId} (het : ρs.t 26 = et) (hstr : P.underlying et = some .string)
    {H : Heap} {nx bid id e : Nat} {V : Type} {ev : V → AV} {dv : V} {es : List (List UInt8 × V)} (hbox : lkH H bid = .cells e [.map id]) (hmap : lkH H id = .smap ev dv es) (enc : List UInt8 → AV) (d : List UInt8) (henc : ∀ s, enc s = .str s)
    (hlen : ∀ p ∈ es, p.1.length ≤ maxLen) (hmax : es.length ≤ 1000000) :
    CallSem P (ρs.f 8) [.fn (.func (ρ.f 10)) [] [.ptr bid 0]] H nx [bid, id] (fun r => ∃ ss : List (List UInt8), ss.Perm (es.map (·.1)) ∧ r = ⟨.own nx, [bid, id], [(nx, .row et 1 enc d ss)], nx + 1⟩) := by
  refine ⟨fnOk_of hf hb hname, fun m S w H₂ vs hG ht hfree hlenv hrel => ?_⟩
  match vs, hlenv with
  | [v], _ =>
    have hv : RelV m S w v (.fn (.func (ρ.f 10)) [] [.ptr bid 0]) := hrel 0 v _ rfl rfl
    obtain ⟨fs, cs, rfl, hfs, hcs, _, rc⟩ := relV_fn hv
    have hfs0 : fs = #[] := Array.eq_empty_of_size_eq_zero (by simpa using hfs)
    subst hfs0
    obtain ⟨c0, rfl⟩ : ∃ c, cs = #[c] := by
      match cs, hcs with
      | ⟨[c]⟩, _ => exact ⟨c, rfl⟩
    obtain ⟨g, rfl, hmb⟩ := relV_ptr0 (rc 0 c0 _ rfl rfl)
    obtain ⟨g', c, hmb', hglt, hcell, hcr⟩ := one_cell hG (by rw [ht bid (by simp), hbox])
    rw [hmb] at hmb'
    cases hmb'
    obtain ⟨r, rfl, hmid⟩ := relV_map0 hcr
    have hbm := hG.rel id
    rw [ht id (by simp), hmap] at hbm
    obtain ⟨r', en, clock, hm2, hr, hsz, hst, hel⟩ := hbm
    rw [hmid] at hm2
    cases hm2
    obtain ⟨D, R, hown, hDs, hperm⟩ := ownsMap_of (P := P) hstr hr hsz hst (fun j x p h1 h2 => (hel j x p h1 h2).1) hlen (by unfold maxLen; omega)
    have hseq := AnyZ.keys_gives (ρ := ρ) { L with } Fence.wide 2 trivial rfl (by omega) g r es.length D w hglt hcell (by rw [h23, het]; exact hown)
    have hN : Maps.size D ≤ maxLen := by rw [hDs]; unfold maxLen; omega
    have hNb : Maps.size D * 16 ≤ 140737488355328 := by rw [hDs]; omega
    have cS := callsIn_wide.1 (AnyZ.collect_in Ls Fence.wide 4 trivial trivial rfl (by omega) (ρ.f 10) #[.pointer (some ⟨g, 0, none⟩)] trivial e10 _ _ hN hNb w hseq)
    refine Calls.mono cS ?_
    rintro e w' ⟨u, ss, rfl, hS, hrow, hnil, hbel⟩
    rw [het] at hrow
    have hlk : ss.length = ss.length := rfl
    have hn : m nx = none := hfree nx (Nat.le_refl _) ⟨⟨.own nx, [bid, id], [(nx, .row et 1 enc d ss)], nx + 1⟩, ⟨ss, hS.trans hperm, rfl⟩, Nat.lt_succ_self _⟩
    have hfresh : ∀ k, blk u = some k → w.heap.size ≤ k := by
      intro k hk
      rcases hrow.2 with ⟨h0, _⟩ | ⟨g', cap, cur, h0, h1, _⟩
      · rw [h0] at hk; simp [blk] at hk
      · rw [h0] at hk; simp [blk] at hk; omega
    have hownrow : w'.ownsRow 0 et 1 u ss.length ((ss).map encStr) := by
      refine ⟨hrow.1, ?_⟩
      rcases hrow.2 with h0 | ⟨g', cap, cur, h0, h1, h2⟩
      · exact .inl h0
      · exact .inr ⟨g', cap, cur, h0, Nat.zero_le _, h2⟩
    have hrr : RowRel S w' et 1 ((ss).map enc) u ((ss).map encStr) := by
      refine ⟨by rw [List.length_map, hlk]; exact hownrow, fun x hx => ?_, fun a ha => ?_, fun j c a hj ha => ?_⟩
      · obtain ⟨s, _, rfl⟩ := List.mem_map.1 hx
        rw [henc]; rfl
      · obtain ⟨x, hx, hax⟩ := List.mem_flatMap.1 ha
        obtain ⟨s, _, rfl⟩ := List.mem_map.1 hx
        rw [henc] at hax
        simp [AV.cells] at hax
        subst hax
        rfl
      · have hfl := flatStr enc henc ss
        rw [hfl] at ha
        simp only [List.getElem?_map, Option.map_eq_some_iff] at hj ha
        obtain ⟨s, h1, rfl⟩ := hj
        obtain ⟨s', h2, rfl⟩ := ha
        rw [h1] at h2
        cases h2
        exact .str _ _ rfl
    have hvs : ∃ a n c, u = .slice a n c := by
      rcases hrow.2 with ⟨h0, _⟩ | ⟨g', cap, cur, h0, _⟩
      · exact ⟨_, _, _, h0⟩
      · exact ⟨_, _, _, h0⟩
    obtain ⟨a, n, c, rfl⟩ := hvs
    refine ⟨_, ⟨_, _, _, _⟩, _, S, rfl, ⟨ss, hS.trans hperm, rfl⟩, ext_new hG hn (.slice a n c) _ w' hbel.os hbel.tape hbel.output hbel.size (fun k hk => hbel.block k hk) hfresh ?_, .own nx n c a (by simp)⟩
    exact ⟨_, _, by simp, hrr⟩

end Go.Own

/-
  A map that was just made, as a map of any values.
-/
namespace Go.Own

/-- The same object, but for what the values of an empty map would be. -/
inductive ObjEq : AB → AB → Prop
  | refl (b : AB) : ObjEq b b
  | smap {V W : Type} (ev : V → AV) (dv : V) (es : List (List UInt8 × V)) (ev' : W → AV) (dv' : W) (es' : List (List UInt8 × W)) (h : es = []) (h' : es' = []) : ObjEq (.smap ev dv es) (.smap ev' dv' es')
  | imap {V W : Type} (k : IntKind) (ev : V → AV) (dv : V) (es : List (Int × V)) (ev' : W → AV) (dv' : W) (es' : List (Int × W)) (h : es = []) (h' : es' = []) : ObjEq (.imap k ev dv es) (.imap k ev' dv' es')
  | newimap {V W : Type} (k : IntKind) (ev : V → AV) (dv : V) (es : List (List UInt8 × V)) (ev' : W → AV) (dv' : W) (es' : List (Int × W)) (h : es = []) (h' : es' = []) : ObjEq (.smap ev dv es) (.imap k ev' dv' es')
  | newsmap {V W : Type} (k : IntKind) (ev : V → AV) (dv : V) (es : List (List UInt8 × V)) (ev' : W → AV) (dv' : W) (es' : List (Int × W)) (h : es = []) (h' : es' = []) : ObjEq (.imap k ev' dv' es') (.smap ev dv es)
theorem ObjEq.symm {a b : AB} (h : ObjEq a b) : ObjEq b a := by
  cases h with
  | refl => exact .refl _
  | smap ev dv es ev' dv' es' h h' => exact .smap _ _ _ _ _ _ h' h
  | imap k ev dv es ev' dv' es' h h' => exact .imap _ _ _ _ _ _ _ h' h
  | newimap k ev dv es ev' dv' es' h h' => exact .newsmap _ _ _ _ _ _ _ h h'
  | newsmap k ev dv es ev' dv' es' h h' => exact .newimap _ _ _ _ _ _ _ h h'
theorem ObjEq.live {a b : AB} (h : ObjEq a b) : a.live = b.live := by cases h <;> rfl
theorem ObjEq.rel {a b : AB} (h : ObjEq a b) {m : Ids} {S : Blocks} {w : World} {id : Nat} (hr : RelB m S w id a) : RelB m S w id b := by
  cases h with
  | refl => exact hr
  | smap ev dv es ev' dv' es' h h' =>
    subst h; subst h'
    obtain ⟨r, en, c, h1, h2, h3, h4, _⟩ := hr
    exact ⟨r, en, c, h1, h2, h3, h4, fun j x p _ hp => by simp at hp⟩
  | imap k ev dv es ev' dv' es' h h' =>
    subst h; subst h'
    obtain ⟨r, en, c, h1, h2, h3, h4, _⟩ := hr
    exact ⟨r, en, c, h1, h2, h3, h4, fun j x p _ hp => by simp at hp⟩
  | newimap k ev dv es ev' dv' es' h h' =>
    subst h; subst h'
    obtain ⟨r, en, c, h1, h2, h3, h4, _⟩ := hr
    exact ⟨r, en, c, h1, h2, h3, h4, fun j x p _ hp => by simp at hp⟩
  | newsmap k ev dv es ev' dv' es' h h' =>
    subst h; subst h'
    obtain ⟨r, en, c, h1, h2, h3, h4, _⟩ := hr
    exact ⟨r, en, c, h1, h2, h3, h4, fun j x p _ hp => by simp at hp⟩
def HeapEq (H H' : Heap) : Prop := ∀ id, ObjEq (lkH H id) (lkH H' id)
theorem HeapEq.symm {H H' : Heap} (h : HeapEq H H') : HeapEq H' H := fun id => (h id).symm
theorem HeapEq.app {H H' : Heap} (h : HeapEq H H') : ∀ A : Heap, HeapEq (A ++ H) (A ++ H')
  | [], id => h id
  | (i, b) :: A, id => by
    show ObjEq (lkH ((i, b) :: (A ++ H)) id) (lkH ((i, b) :: (A ++ H')) id)
    rw [lkH_cons, lkH_cons]
    split
    · exact .refl _
    · exact h.app A id
theorem HeapEq.good [Tabs] {H H' : Heap} (h : HeapEq H H') {m : Ids} {S : Blocks} {w : World} (hg : Good m S w H) : Good m S w H' :=
  ⟨fun id => (h id).rel (hg.rel id), fun i j vi vj k hi hj => hg.sep i j vi vj k (by rw [(h i).live]; exact hi) (by rw [(h j).live]; exact hj), fun g hgg => ⟨(hg.ro g hgg).1, fun i v hl => (hg.ro g hgg).2 i v (by rw [(h i).live]; exact hl)⟩, hg.tab⟩
theorem HeapEq.own {H H' : Heap} (h : HeapEq H H') {m : Ids} {k : Nat} (ho : Own.own m H k) : Own.own m H' k := by
  obtain ⟨i, v, hl, h1, h2⟩ := ho
  exact ⟨i, v, by rw [← (h i).live]; exact hl, h1, h2⟩
theorem HeapEq.ext [Tabs] {H H' : Heap} (h : HeapEq H H') {m : Ids} {S : Blocks} {w : World} {nx nx' : Nat} {m' : Ids} {S' : Blocks} {w' : World} {A : Heap} (hE : Ext m S w H nx nx' m' S' w' (A ++ H)) : Ext m S w H' nx nx' m' S' w' (A ++ H') := by
  refine ⟨hE.ids, hE.same, hE.ros, fun g hg => ?_, ⟨hE.far.os, hE.far.tape, hE.far.output, hE.far.size, fun k hk hn => hE.far.block k hk fun ho => hn (h.own ho)⟩, fun k hk => ?_, (h.app A).good hE.good⟩
  · rcases hE.fresh g hg with h1 | h1 | h1
    · exact .inl h1
    · exact .inr (.inl (h.own h1))
    · exact .inr (.inr h1)
  · rcases hE.owns k ((h.app A).symm.own hk) with h1 | h1
    · exact .inl (h.own h1)
    · exact .inr h1
/-- A call that works on typed maps works on those just made. -/
theorem callSem_made [Tabs] {P : Program} {f : FuncId} {avs : List AV} {H H' : Heap} {nx : Nat} {t : List Nat} {Rr : Res → Prop} (h : CallSem P f avs H' nx t Rr) (he : ∀ id ∈ t, ObjEq (lkH H id) (lkH H' id)) : CallSem P f avs H nx t Rr := by
  refine ⟨h.1, fun m S w H₂ vs hG ht hf hl hv => ?_⟩
  have hq : HeapEq H₂ (restr H' t ++ H₂) := fun id => by
    by_cases hi : id ∈ t
    · rw [lkH_restr_app' hi, ht id hi]
      exact he id hi
    · rw [lkH_restr_app hi]
      exact .refl _
  refine (h.2 m S w (restr H' t ++ H₂) vs (hq.good hG) (fun id hi => lkH_restr_app' hi) hf hl hv).mono ?_
  rintro e w' ⟨v, r, m', S', h1, h2, hE, h4⟩
  exact ⟨v, r, m', S', h1, h2, hq.symm.ext hE, h4⟩

end Go.Own

/-
  Values of types that name themselves: what cells of such a type read as, by the size of what is read.
-/
namespace Go.Own
open Go.ChangeShapes Go.WideShapes Go.RowKit

/-- What n cells of a type read as, where what is read is less than N. -/
def OpensS (P : Program) (t : TypeId) (n : Nat) (R : List AV → Prop) (N : Nat) : Prop :=
  P.cellsOf t = n ∧ ∀ {H : Type} (ec : TypeId × Value → H) (W : World) (fuel : Nat) (cs : List Value) (x : DataW H × List MemPlace), SizeOf.sizeOf x.1 < N → DataW.trod ec P W 0 (fun _ => true) true fuel t cs = some x →
    ∃ l, R l ∧ cs.length = l.length ∧ l.length = n ∧ (∀ b ∈ l, b.one = true) ∧ ∀ (j : Nat) (c : Value) (b : AV), cs[j]? = some c → l[j]? = some b → RelT (All W) W c b

theorem OpensR.at {P : Program} {t : TypeId} {n : Nat} {R : List AV → Prop} (h : OpensR P t n R) (N : Nat) : OpensS P t n R N := ⟨h.1, fun ec W fuel cs x _ hx => h.2 ec W fuel cs x hx⟩
theorem opensR_all {P : Program} {t : TypeId} {n : Nat} {R : List AV → Prop} (h : ∀ N, OpensS P t n R N) : OpensR P t n R :=
  ⟨(h 0).1, fun ec W fuel cs x hx => (h (SizeOf.sizeOf x.1 + 1)).2 ec W fuel cs x (Nat.lt_succ_self _) hx⟩
theorem OpensS.le {P : Program} {t : TypeId} {n : Nat} {R : List AV → Prop} {N M : Nat} (h : OpensS P t n R N) (hM : M ≤ N) : OpensS P t n R M :=
  ⟨h.1, fun ec W fuel cs x hs hx => h.2 ec W fuel cs x (Nat.lt_of_lt_of_le hs hM) hx⟩
theorem OpensS.mono {P : Program} {t : TypeId} {n : Nat} {R R' : List AV → Prop} {N : Nat} (h : OpensS P t n R N) (hR : ∀ l, R l → R' l) : OpensS P t n R' N :=
  ⟨h.1, fun ec W fuel cs x hs hx => let ⟨l, h1, h2⟩ := h.2 ec W fuel cs x hs hx; ⟨l, hR l h1, h2⟩⟩
theorem opensS_zero {P : Program} {t : TypeId} {n : Nat} {R : List AV → Prop} (h : P.cellsOf t = n) : OpensS P t n R 0 := ⟨h, fun _ _ _ _ _ hs _ => absurd hs (Nat.not_lt_zero _)⟩

/-- The fields of a struct. -/
def FieldsS (P : Program) (N : Nat) : Nat → List Field → List (Nat × (List AV → Prop)) → Nat → Prop
  | off, [], [], n => off = n
  | off, f :: fs, (k, R) :: Rs, n => f.offset = off ∧ OpensS P f.type k R N ∧ FieldsS P N (off + k) fs Rs n
  | _, _, _, _ => False

theorem opensS_struct {P : Program} {N : Nat} {t : TypeId} {fs : Array Field} {n : Nat} {Rs : List (Nat × (List AV → Prop))} (ht : P.underlying t = some (.struct fs)) (hc : P.cellsOf t = n) (hf : FieldsS P N 0 fs.toList Rs n) : OpensS P t n (StrR Rs) (N + 1) := by
  refine ⟨hc, fun {H} ec W fuel cs x hsz h => ?_⟩
  obtain ⟨xs, m, _, hxx, hl, hlen, hfs⟩ := DataW.trod_struct ht h
  rw [hc] at hl
  have hsm : ∀ y ∈ xs, SizeOf.sizeOf y.1 < N := fun y hy => by
    have h1 := List.sizeOf_lt_of_mem (List.mem_map_of_mem (f := fun y : DataW H × List MemPlace => y.1) hy)
    rw [hxx] at hsz
    simp only [DataW.agg.sizeOf_spec] at hsz
    omega
  have key : ∀ (gs : List Field) (Rs : List (Nat × (List AV → Prop))) (off i : Nat), FieldsS P N off gs Rs n → (∀ j, gs[j]? = fs[i + j]?) → off ≤ n →
      ∃ l, StrR Rs l ∧ off + l.length = n ∧ (∀ b ∈ l, b.one = true) ∧ ∀ (j : Nat) (c : Value) (b : AV), cs[off + j]? = some c → l[j]? = some b → RelT (All W) W c b := by
    intro gs
    induction gs with
    | nil =>
      intro Rs off i hF _ _
      cases Rs with
      | nil =>
        have : off = n := hF
        exact ⟨[], rfl, by simpa using this, by simp, fun j c b _ h => by simp at h⟩
      | cons p Rs => exact hF.elim
    | cons f gs ih =>
      intro Rs off i hF hg hoff
      cases Rs with
      | nil => exact hF.elim
      | cons p Rs =>
        obtain ⟨k, R⟩ := p
        obtain ⟨ho, ⟨hck, hR⟩, hrest⟩ := hF
        have hfi : fs[i]? = some f := by
          have := hg 0
          simpa using this.symm
        have hi := hfs i f hfi
        have hil : i < xs.length := by
          rw [hlen]
          exact (Array.getElem?_eq_some_iff.1 hfi).1
        rw [List.getElem?_eq_getElem hil] at hi
        obtain ⟨l1, h1, h2, h3, h4, h5⟩ := hR ec W m _ _ (hsm _ (List.getElem_mem hil)) hi
        have hk : k ≤ n - off := by
          rw [ho, hck] at h2
          simp at h2
          omega
        obtain ⟨l2, g1, g2, g3, g4⟩ := ih Rs (off + k) (i + 1) hrest (fun j => by
          have := hg (j + 1)
          rw [List.getElem?_cons_succ] at this
          rw [this]
          congr 1
          omega) (by omega)
        refine ⟨l1 ++ l2, ⟨l1, l2, h1, g1, rfl⟩, by simp; omega, fun b hb => ?_, fun j c b hj hb => ?_⟩
        · rcases List.mem_append.1 hb with hb | hb
          · exact h4 b hb
          · exact g3 b hb
        · by_cases hjk : j < k
          · rw [List.getElem?_append_left (by omega)] at hb
            refine h5 j c b ?_ hb
            rw [ho, hck]
            simp [hjk, hj]
          · rw [List.getElem?_append_right (by omega)] at hb
            refine g4 (j - k) c b ?_ (by rw [h3] at hb; exact hb)
            rw [← hj]
            congr 1
            omega
  obtain ⟨l, h1, h2, h3, h4⟩ := key fs.toList Rs 0 0 hf (fun j => by simp) (Nat.zero_le _)
  exact ⟨l, h1, by omega, by omega, h3, fun j c b hj hb => h4 j c b (by rw [Nat.zero_add]; exact hj) hb⟩

/-- A slice, wherever it stands. -/
theorem opensS_slice {P : Program} {N : Nat} {t e : TypeId} {E : Nat} {R : List AV → Prop} {X : Type} [Inhabited X] {enc : X → AV} {ok : X → Prop} (ht : P.underlying t = some (.slice e)) (hc : P.cellsOf t = 1) (ho : OpensS P e E R N) (hpos : 0 < E)
    (hX : ∀ l, R l → ∃ a, ok a ∧ (enc a).cells = l) (hE1 : ∀ a, (enc a).cells.length = E) :
    OpensS P t 1 (fun l => ∃ xs : List X, (∀ a ∈ xs, ok a) ∧ xs.length ≤ 9223372036854775807 ∧ l = [.lsl E (xs.map enc)]) (N + 1) := by
  refine ⟨hc, fun {H} ec W fuel cs x hsize h => ?_⟩
  have fin : ∀ {v : Value} {xs : List X}, (∀ a ∈ xs, ok a) → xs.length ≤ 9223372036854775807 → RelT (All W) W v (.lsl E (xs.map enc)) → cs = [v] →
      ∃ l, (∃ xs : List X, (∀ a ∈ xs, ok a) ∧ xs.length ≤ 9223372036854775807 ∧ l = [.lsl E (xs.map enc)]) ∧ cs.length = l.length ∧ l.length = 1 ∧ (∀ b ∈ l, b.one = true) ∧ ∀ (j : Nat) (c : Value) (b : AV), cs[j]? = some c → l[j]? = some b → RelT (All W) W c b := by
    intro v xs h1 h2 h3 hcs
    refine ⟨_, ⟨xs, h1, h2, rfl⟩, by rw [hcs]; rfl, rfl, by simp [AV.one], fun j c b hj hb => ?_⟩
    rw [hcs] at hj
    cases j with
    | zero => simp at hj hb; subst hj; subst hb; exact h3
    | succ j => simp at hj
  rcases Deep.open_slice ht h with ⟨hcs, _⟩ | ⟨a, len, cap, m, n, D, Pl, hcs, hb, hl, hm, hmm, hxx, hel⟩
  · exact fin (xs := []) (by simp) (by simp) (.lslnil E) hcs
  · simp only [if_true] at hmm
    subst hmm
    have hDs : ∀ i, i < len → SizeOf.sizeOf (D i) < N := fun i hi => by
      rw [hxx] at hsize
      simp only [DataW.slice.sizeOf_spec] at hsize
      have := List.sizeOf_lt_of_mem (List.mem_map_of_mem (f := D) (List.mem_range.2 hi))
      omega
    rw [ho.1] at hel
    by_cases hm0 : m = 0
    · have hl0 : len = 0 := by omega
      subst hm0
      subst hl0
      exact fin (xs := []) (by simp) (by simp) (.lslz E a) hcs
    obtain ⟨c0, h0, _⟩ := hel 0 (by omega)
    obtain ⟨_, hlen0, hget0⟩ := World.cells?_some h0
    have hcell0 : W.cell? a = some (c0[0]'(by omega)) := by
      have := hget0 0 hpos
      rw [List.getElem?_eq_getElem (by omega)] at this
      simpa [Addr.add] using this
    obtain ⟨hlt, hspot⟩ := cell_block hcell0
    rw [addr_eta hspot] at hcs hel
    generalize a.block = g at *
    generalize a.off = o at *
    obtain ⟨A, hA⟩ := Deep.choose_lt (α := X) (n := len) (p := fun i x => ok x ∧ ∃ cs', W.cells? 0 ((⟨g, o, none⟩ : Addr).add (i * E)) E = some cs' ∧ cs'.length = (enc x).cells.length ∧ (∀ b ∈ (enc x).cells, b.one = true) ∧
        ∀ (j : Nat) (c : Value) (b : AV), cs'[j]? = some c → (enc x).cells[j]? = some b → RelT (All W) W c b) (fun i hi => by
      obtain ⟨cs', h1, h2⟩ := hel i (by omega)
      obtain ⟨l, q1, q2, _, q3, q4⟩ := ho.2 ec W n cs' _ (hDs i hi) h2
      obtain ⟨x, hx, rfl⟩ := hX l q1
      exact ⟨x, hx, cs', h1, q2, q3, q4⟩)
    have cell : ∀ i, i < len → ∀ j, j < E → ∃ c b, W.cell? ⟨g, o + (i * E + j), none⟩ = some c ∧ (enc (A i)).cells[j]? = some b ∧ RelT (All W) W c b := by
      intro i hi j hj
      obtain ⟨_, cs', h1, h2, _, h4⟩ := hA i hi
      obtain ⟨_, hlen, hget⟩ := World.cells?_some h1
      have hc := hget j hj
      have hcj : cs'[j]? = some (cs'[j]'(by omega)) := List.getElem?_eq_getElem (by omega)
      have hbj : (enc (A i)).cells[j]? = some ((enc (A i)).cells[j]'(by rw [hE1]; exact hj)) := List.getElem?_eq_getElem _
      refine ⟨_, _, ?_, hbj, h4 j _ _ hcj hbj⟩
      rw [hcj, Deep.add_add] at hc
      have e : (⟨g, o + (i * E + j), none⟩ : Addr) = (⟨g, o, none⟩ : Addr).add (i * E + j) := by
        unfold Addr.add
        split
        · rename_i h0; rw [h0]; rfl
        · rfl
      rw [e]
      exact hc
    have hsz : ∀ x ∈ ((List.range len).map A).map enc, x.cells.length = E := by
      intro x hx
      obtain ⟨y, _, rfl⟩ := List.mem_map.1 hx
      exact hE1 y
    have split : ∀ q, q < len * E → q / E < len ∧ q % E < E ∧ q = q / E * E + q % E := by
      intro q hq
      refine ⟨Nat.div_lt_of_lt_mul (by rw [Nat.mul_comm]; exact hq), Nat.mod_lt _ hpos, ?_⟩
      have := Nat.div_add_mod q E
      rw [Nat.mul_comm] at this
      omega
    have hflat : ∀ i, i < len → ∀ j, j < E → (flat (((List.range len).map A).map enc))[i * E + j]? = (enc (A i)).cells[j]? := by
      intro i hi j hj
      exact flat_get _ hsz i j _ (by simp [hi]) hj
    refine fin (v := .slice (some ⟨g, o, none⟩) len m) (xs := (List.range len).map A) (fun x hx => ?_) (by simp; unfold maxLen at hm; omega) ?_ hcs
    · obtain ⟨i, hi, rfl⟩ := List.mem_map.1 hx
      exact (hA i (List.mem_range.1 hi)).1
    · have hL : (((List.range len).map A).map enc).length = len := by simp
      have := RelT.lsl (S := All W) (w := W) E (((List.range len).map A).map enc) g o m ((List.range (len * E)).map fun q => (W.cell? ⟨g, o + q, none⟩).getD undef) hlt (by rw [hL]; exact hl) hsz (fun b hb => ?_) (by simp) (fun j c hj => ?_) (fun j c b hj hb => ?_)
      · rw [hL] at this
        exact this
      · obtain ⟨x, hx, hbx⟩ := List.mem_flatMap.1 hb
        obtain ⟨y, hy, rfl⟩ := List.mem_map.1 hx
        obtain ⟨i, hi, rfl⟩ := List.mem_map.1 hy
        obtain ⟨_, _, _, _, h3, _⟩ := hA i (List.mem_range.1 hi)
        exact h3 b hbx
      · have hq : j < len * E := by
          have := (List.getElem?_eq_some_iff.1 hj).1
          simpa using this
        obtain ⟨s1, s2, s3⟩ := split j hq
        obtain ⟨c', b', h1, _, _⟩ := cell _ s1 _ s2
        rw [← s3] at h1
        simp [hq, h1] at hj
        rw [h1, hj]
      · have hq : j < len * E := by
          have := (List.getElem?_eq_some_iff.1 hj).1
          simpa using this
        obtain ⟨s1, s2, s3⟩ := split j hq
        obtain ⟨c', b', h1, h2, h3⟩ := cell _ s1 _ s2
        have hf := hflat _ s1 _ s2
        rw [← s3] at h1 hf
        rw [hf, h2] at hb
        cases hb
        simp [hq, h1] at hj
        subst hj
        exact h3

end Go.Own

/-
  Rows of laws whose arguments' sizes matter: a slice that is an argument takes at most as many bytes as there are addresses.
-/
namespace Go.Own
open Go.ChangeShapes Go.WideShapes Go.RowKit

/-- What an argument of a type is, that fits into memory. -/
def OpVz (P : Program) (t : TypeId) (Q : AV → Prop) : Prop :=
  ∀ {H : Type} {ec : TypeId × Value → H} {W : World} {base : Nat} {v : Value} {d : DataW H} {ps : List MemPlace}, Value.okWide P W .any base t v → DataW.Trod ec P W 0 (fun _ => true) true t v d ps → (∀ n ∈ DataW.weights P t d, n ≤ 140737488351232) → ∃ a, Q a ∧ RelT (All W) W v a

theorem OpV.z {P : Program} {t : TypeId} {Q : AV → Prop} (h : OpV P t Q) : OpVz P t Q := fun h1 h2 _ => h h1 h2
theorem OpVz.mono {P : Program} {t : TypeId} {Q Q' : AV → Prop} (h : OpVz P t Q) (hQ : ∀ a, Q a → Q' a) : OpVz P t Q' := fun h1 h2 h3 => let ⟨a, q, r⟩ := h h1 h2 h3; ⟨a, hQ a q, r⟩

theorem opVz_slice {P : Program} {t e : TypeId} {E b : Nat} {X : Type} {enc : X → AV} {d0 : X} {ok : List X → Prop} (ht : P.underlying t = some (.slice e)) (hb : P.bytesOf e = b) (h : OpensR P t 1 (fun l => ∃ xs : List X, ok xs ∧ l = [.sl E enc d0 xs])) :
    OpVz P t (fun a => ∃ xs : List X, (ok xs ∧ xs.length * b ≤ 140737488351232) ∧ a = .sl E enc d0 xs) := by
  intro H ec W base v d ps hv hd hw
  obtain ⟨a, len, cap, rfl⟩ := okWide_slice ht hv
  obtain ⟨fuel, hf⟩ := hd
  obtain ⟨l, ⟨xs, hx, rfl⟩, _, _, _, hr⟩ := h.2 ec W fuel _ _ hf
  have hr := hr 0 _ _ rfl rfl
  refine ⟨_, ⟨xs, ⟨hx, ?_⟩, rfl⟩, hr⟩
  have hlen : xs.length = len := by
    cases hr with
    | sl _ _ _ _ _ h0 =>
      generalize hL : xs.map enc = L at h0
      have hl : L.length = xs.length := by rw [← hL, List.length_map]
      cases h0 with
      | lslnil => simpa using hl.symm
      | lslz => simpa using hl.symm
      | lsl => exact hl.symm
  rcases DataW.trod_slice ht hf with ⟨hcs, hd⟩ | ⟨a', len', cap', elems, rest, n, _, hcs, hd, _, _, _, hel, _⟩
  · simp [Value.cells] at hcs
    rw [hlen, hcs.2.1]
    omega
  · simp only [Prod.mk.injEq] at hd
    simp [Value.cells] at hcs
    have h1 := hw ((elems.length + rest.length) * b) (by rw [hd.1]; simp [DataW.weights, ht, hb])
    rw [hlen, hcs.2.1, ← hel]
    exact Nat.le_trans (Nat.mul_le_mul_right b (Nat.le_add_right _ _)) h1

def OpVzs (P : Program) : List TypeId → List (AV → Prop) → Prop
  | [], [] => True
  | t :: ts, Q :: Qs => OpVz P t Q ∧ OpVzs P ts Qs
  | _, _ => False

theorem opens_listz {P : Program} {H : Type} {ec : TypeId × Value → H} {W : World} {base : Nat} : ∀ (ts : List TypeId) (Qs : List (AV → Prop)) (vs : List Value) (ds : List (DataW H)) (ps : List MemPlace), OpVzs P ts Qs →
    (∀ (j : Nat) t v, ts[j]? = some t → vs[j]? = some v → Value.okWide P W .any base t v) → DataW.TrodAll ec P W 0 (fun _ => true) true ts vs ds ps → (∀ n ∈ DataW.weightsEach P ts ds, n ≤ 140737488351232) → ∃ avs, Alls Qs avs ∧ RelTs (All W) W vs avs
  | [], [], vs, ds, ps, _, _, h, _ => by
    obtain ⟨rfl, _, _⟩ := trodAll_nil h
    exact ⟨[], trivial, rfl, fun j v a h => by simp at h⟩
  | [], _ :: _, _, _, _, h, _, _, _ => h.elim
  | _ :: _, [], _, _, _, h, _, _, _ => h.elim
  | t :: ts, Q :: Qs, vs, ds, ps, hO, hv, h, hw => by
    obtain ⟨v, vs', d, ds', p, q, rfl, rfl, rfl, h1, h2⟩ := trodAll_cons h
    obtain ⟨a, ha, hr⟩ := hO.1 (hv 0 t v rfl rfl) h1 (fun n hn => hw n (by simp only [DataW.weightsEach, List.mem_append]; exact .inl hn))
    obtain ⟨avs, hA, hR⟩ := opens_listz ts Qs vs' ds' q hO.2 (fun j t v h1 h2 => hv (j + 1) t v (by simpa using h1) (by simpa using h2)) h2 (fun n hn => hw n (by simp only [DataW.weightsEach, List.mem_append]; exact .inr hn))
    refine ⟨a :: avs, ⟨ha, hA⟩, by simp [hR.1], fun j v' a' h1 h2 => ?_⟩
    cases j with
    | zero => simp at h1 h2; subst h1; subst h2; exact hr
    | succ j => exact hR.2 j v' a' (by simpa using h1) (by simpa using h2)

/-- The row of a law, out of its contract. -/
theorem row_liftedz [Tabs] {C : Checked} {P : Program} (hC : C.prog = P) {os : Os} {f : FuncId} {fn : Func} {s : ChangeSpec} {conds : List PathCond} {H : Type} {enc : TypeId × Value → H} {tb : TypeId} {Qs : List (AV → Prop)}
    (own : ownKnob P.godebug = none) (started : os.Started) (noInit : P.inits.idxOf? f = none) (hfn : P.funcs[f]? = some fn)
    (witness : ∃ (w : World) (tape : Tape) (i : Input), w.os = os ∧ (w.forCall tape i).Shaped P ∧ i.vars = [] ∧ Input.okWide P (w.forCall tape i) .any w.heap.size f i ∧
      s.pre6 enc P fn conds false (w.forCall tape i).memory i.args ∧ ({} : Assume).holds P (lone (Frame.enter P f i.args .normal) [] (w.forCall tape i)))
    (hl : laidOutB P = true) (hsv : s.vars = []) (hr : (fn.params.toList.all fun t => P.readableRec t && decide (t < P.types.size)) = true)
    (hres : fn.resultTypes = #[tb]) (htb : P.underlying tb = some .bool) (hspec : ∀ ds : List (DataW H), ds.length = fn.params.size → s.fn H (ds ++ []) = { results := [.lit (.bool true)], args := ds })
    (hQ : OpVzs P fn.params.toList Qs) (hA : ∀ avs, Alls Qs avs → APureV P f avs (.bool true)) (hTb : ∀ g, Tabs.held g = none := by intro _; rfl) :
    ReturnsInHanded {} C os f .any (s.pre6 enc P fn conds false) (s.post enc P fn false true false false) := by
  subst hC
  refine returnsInHanded_of_change_sized own started noInit hfn witness ?_
  intro W base args ds gs before hval0 hW hcnd hsz _
  have hval : ∀ (j : Nat) t v, fn.params[j]? = some t → args[j]? = some v → Value.okWide C.prog W .any base t v := hval0
  have hW' := hW
  obtain ⟨p, q, hA0, hV, rfl, hfz, hnd⟩ := hW
  have hA1 : DataW.TrodAll enc C.prog W 0 (fun _ => true) true fn.params.toList args.toList ds p := hA0
  rw [hsv] at hV
  obtain ⟨rfl, rfl⟩ := trodVars_none hV
  have hlen : ∀ (ts : List TypeId) (vs : List Value) (ds : List (DataW H)) (ps : List MemPlace), DataW.TrodAll enc C.prog W 0 (fun _ => true) true ts vs ds ps → ds.length = ts.length := by
    intro ts
    induction ts with
    | nil => intro vs ds ps h; obtain ⟨_, rfl, _⟩ := trodAll_nil h; rfl
    | cons t ts ih =>
      intro vs ds ps h
      obtain ⟨v, vs', d, ds', p, q, rfl, rfl, rfl, _, h2⟩ := trodAll_cons h
      simp [ih _ _ _ h2]
  have hwm : ∀ (ts ts' : List TypeId) (ds : List (DataW H)), ds.length = ts.length → ∀ n ∈ DataW.weightsEach C.prog ts ds, n ∈ DataW.weightsEach C.prog (ts ++ ts') (ds ++ []) := by
    intro ts
    induction ts with
    | nil => intro ts' ds _ n hn; simp [DataW.weightsEach] at hn
    | cons t ts ih =>
      intro ts' ds hl n hn
      cases ds with
      | nil => simp at hl
      | cons d ds =>
        simp only [DataW.weightsEach, List.mem_append, List.cons_append] at hn ⊢
        rcases hn with h | h
        · exact .inl h
        · exact .inr (ih ts' ds (by simpa using hl) n h)
  obtain ⟨avs, h1, h2⟩ := opens_listz fn.params.toList Qs args.toList ds p hQ (fun j t v h1 h2 => hval j t v (by simpa using h1) (by simpa using h2)) hA1 (fun n hn => by
    have := List.all_eq_true.1 hsz n (hwm _ _ _ (hlen _ _ _ _ hA1) n hn)
    exact of_decide_eq_true (p := n ≤ reachBytes) this)
  have hr' : ∀ t ∈ fn.params.toList, C.prog.readableRec t = true ∧ t < C.prog.types.size := by
    intro t ht
    have := List.all_eq_true.1 hr t ht
    simpa using this
  exact row_of_apure hl hsv hW' hr' hres htb (hspec ds (by simpa using hlen _ _ _ _ hA1)) (fun g cs h => by rw [hTb] at h; cases h) (hA avs h1) h2

end Go.Own

/-
  Rows made read only where a drawn region or a loop ends.
-/
namespace Go.Own

/-- After a loop a state may be weakened. -/
theorem loopG_slack [Tabs] {C : Cx} {body : Code} {st : St} {Q : Exit → St → Prop} (h : LoopG C body st (fun e st' => ∃ st'', Wk C.pn C.N st' st'' ∧ Q e st'')) : LoopG C body st Q := by
  obtain ⟨h⟩ := h
  exact ⟨fun F a w hF hr => wp_mono (h F a w hF hr) fun _ _ _ ⟨_, h1, st'', hw, h2⟩ => ⟨st'', hw F _ _ hF h1, h2⟩⟩

end Go.Own

/-
  strconv.Itoa below 100, and rows that list tables.
-/
namespace Go.Own
open Go.Proofs Go.Shelf Go.ChangeShapes Go.WideShapes Go.RowKit

theorem relT_int {S : Blocks} {w : World} {v : Value} {k : IntKind} {n : Int} (h : RelT S w v (.int k n)) : v = .int k n := by
  cases h
  rfl

end Go.Own
