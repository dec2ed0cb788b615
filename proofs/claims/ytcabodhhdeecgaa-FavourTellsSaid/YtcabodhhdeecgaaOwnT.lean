/-
  Code over abstract states: statements, loops, functions.
-/
import Derived.Test.YtcabodhhdeecgaaOwnS2
namespace Go.Own

/-- Of what a region wrote, what is read elsewhere. -/
def flushK : List Nat → Loc → Env → Env → (Env → Prop) → Prop
  | [], _, _, acc, k => k acc
  | s :: r, loc, env, acc, k => match look loc env s with
    | (0, v) => forceAV v fun v => flushK r loc env ((s, v) :: acc) k
    | (_ + 1, _) => flushK r loc env acc k

/-- The abstract state stands for the real one. -/
def Rel [Tabs] (F : Fr) (N : Nat) (st : St) (a : Act) (w : World) : Prop :=
  ∃ m S, Core F m S w st.heap st.nx ∧ a.tmps.size = N ∧ a.defers = [] ∧ ∀ s, RelV m S w (a.tmps.getD s undef) (lk st.env s)

/-- A region that draws its order: one that only looks; or any other of which it is shown. -/
inductive DrawG [Tabs] (C : Cx) (id : Nat) (ops : Array Oper) (env : Env) (H : Heap) (nx : Nat) (Q : St → Prop) : Prop
  | quiet (hB : Region.lexB .any ops = true) (h : evOpsQ C H nx env ops.toList ops.toList [] [] fun loc => flushK C.keep loc env [] fun env => Q ⟨env, H, nx⟩)
  | any (h : ∀ F a w, Rel F C.N ⟨env, H, nx⟩ a w → (Code.region id ops true).wp C.P (fun e a' w' => e = .normal ∧ ∃ st', Rel F C.N st' a' w' ∧ Q st') a w)

/-- What is owed of a program, once. -/
structure CxOk (C : Cx) : Prop where
  tab : TabOk C.P C.T
  mixed : C.P.follows .mixedOrders = true

/-- No other numbers stand fast but the first ones. -/
def Fr.fits (F : Fr) (pn : Nat) : Prop := ∀ i v, F.pin i = some v → i < pn

/-- A loop. -/
inductive LoopG [Tabs] (C : Cx) (body : Code) (st : St) (Q : Exit → St → Prop) : Prop
  | mk (h : ∀ F a w, F.fits C.pn → Rel F C.N st a w → (Code.loop body).wp C.P (fun e a' w' => ∃ st', Rel F C.N st' a' w' ∧ Q e st') a w)

def thenQ (next : St → Prop) (Q : Exit → St → Prop) : Exit → St → Prop
  | .normal, st => next st
  | e, st => Q e st

def blockQ (id : Nat) (Q : Exit → St → Prop) : Exit → St → Prop
  | .exit id', st => match Nat.beq id' id with
    | true => Q .normal st
    | false => Q (.exit id') st
  | e, st => Q e st

def evRegion [Tabs] (C : Cx) (ops : Array Oper) (st : St) (Q : St → Prop) : Prop :=
  match st with
  | ⟨env, H, nx⟩ => evOps C false ops.toList ops.toList [] [] env H nx fun loc H nx => flushK C.keep loc env [] fun env => Q ⟨env, H, nx⟩

def evCode [Tabs] (C : Cx) : Code → St → (Exit → St → Prop) → Prop
  | .skip, st, Q => Q .normal st
  | .label _, st, Q => Q .normal st
  | .region id ops draw, st, Q => match draw with
    | false => evRegion C ops st (Q .normal)
    | true => match st with
      | ⟨env, H, nx⟩ => DrawG C id ops env H nx (Q .normal)
  | .seq x y, st, Q => evCode C x st (thenQ (fun st' => evCode C y st' Q) Q)
  | .cond c x y, st, Q => match st with
    | ⟨env, H, nx⟩ => match rdOp [] env c with
      | .bool b => (b = true → evCode C x ⟨env, H, nx⟩ Q) ∧ (b = false → evCode C y ⟨env, H, nx⟩ Q)
      | _ => False
  | .block id body, st, Q => evCode C body st (blockQ id Q)
  | .loop body, st, Q => LoopG C body st Q
  | .exit id, st, Q => Q (.exit id) st
  | .ret, st, Q => Q .ret st
  | _, _, _ => False

theorem flushK_sound {m : Ids} {S : Blocks} {w : World} {N : Nat} {tmps : Array Value} {loc : Loc} {env : Env} {stk : List Lay} (h : RunI m S w N tmps loc env stk) : ∀ (keep : List Nat) (acc : Env) (k : Env → Prop), flushK keep loc env acc k →
    (∀ s, RelV m S w (tmps.getD s undef) (lk acc s)) → ∃ env', k env' ∧ ∀ s, RelV m S w (tmps.getD s undef) (lk env' s)
  | [], acc, k, hk, ha => ⟨acc, hk, ha⟩
  | s :: r, acc, k, hk, ha => by
    unfold flushK at hk
    split at hk
    · rename_i v hl
      refine flushK_sound h r _ k (forceAV_iff.1 hk) fun x => ?_
      rw [lk_cons]
      split
      · rename_i e
        subst e
        have := h.rel s
        rw [hl] at this
        exact this
      · exact ha x
    · exact flushK_sound h r acc k hk ha

theorem Rel.run {F : Fr} {N : Nat} {st : St} {a : Act} {m : Ids} {S : Blocks} {w : World} (hs : a.tmps.size = N) (hr : ∀ s, RelV m S w (a.tmps.getD s undef) (lk st.env s)) : RunI m S w N a.tmps [] st.env [] :=
  ⟨hs, fun s => hr s, trivial⟩

theorem range'_eq (n : Nat) : List.range n = List.range' 0 n := by rw [List.range_eq_range']

theorem evRegion_sound [Tabs] {C : Cx} (hT : TabOk C.P C.T) {id : Nat} {ops : Array Oper} {st : St} {Q : St → Prop} (h : evRegion C ops st Q) {F : Fr} {a : Act} {w : World} (hr : Rel F C.N st a w) :
    (Code.region id ops false).wp C.P (fun e a' w' => e = .normal ∧ ∃ st', Rel F C.N st' a' w' ∧ Q st') a w := by
  obtain ⟨m, S, hc, hs, hd, hrel⟩ := hr
  refine wp_region ?_
  obtain ⟨env, H, nx⟩ := st
  have := evOps_seq hT (F := F) (all := ops.toList) (Q := fun e a' w' => e = .normal ∧ ∃ st', Rel F C.N st' a' w' ∧ Q st') ops.toList 0 [] [] env H nx _ (by simp) h ?_ m S w a hc (Rel.run (F := F) (st := ⟨env, H, nx⟩) hs hrel) hd
  · rw [range'_eq]
    simpa using this
  · intro m S w a loc stk H nx hk hc hr hd
    obtain ⟨env', hq, he⟩ := flushK_sound hr _ _ _ hk (fun s => .t _ _ (.undef _))
    exact ⟨rfl, ⟨env', H, nx⟩, ⟨m, S, hc, hr.size, hd, he⟩, hq⟩

theorem drawG_sound [Tabs] {C : Cx} (hC : CxOk C) {id : Nat} {ops : Array Oper} {env : Env} {H : Heap} {nx : Nat} {Q : St → Prop} (h : DrawG C id ops env H nx Q) {F : Fr} {a : Act} {w : World} (hr : Rel F C.N ⟨env, H, nx⟩ a w) :
    (Code.region id ops true).wp C.P (fun e a' w' => e = .normal ∧ ∃ st', Rel F C.N st' a' w' ∧ Q st') a w := by
  cases h with
  | any h => exact h F a w hr
  | quiet hB h =>
    obtain ⟨m, S, hc, hs, hd, hrel⟩ := hr
    refine wp_region_quiet (C := RowKit.Below w.heap.size w) hC.mixed hB ⟨rfl, rfl, rfl, Nat.le_refl _, fun _ _ => rfl⟩ ?_
    refine evOpsQ_sound hC.tab hc.good ops.toList [] [] _ h (fun a loc stk hk hr hd w' hw' => ?_) a (Rel.run (F := F) (st := ⟨env, H, nx⟩) hs hrel) hd
    obtain ⟨env', hq, he⟩ := flushK_sound hr _ _ _ hk (fun s => .t _ _ (.undef _))
    have e := ext_below (nx := nx) hc.good hw'
    exact ⟨rfl, ⟨env', H, nx⟩, ⟨m, S, hc.step e (Nat.le_refl _), hr.size, hd, fun s => e.relV hc.good (he s)⟩, hq⟩

theorem evCode_sound [Tabs] {C : Cx} (hT : CxOk C) {F : Fr} (hF : F.fits C.pn) : ∀ (c : Code) (st : St) (Q : Exit → St → Prop), evCode C c st Q → ∀ a w, Rel F C.N st a w → c.wp C.P (fun e a' w' => ∃ st', Rel F C.N st' a' w' ∧ Q e st') a w
  | .skip, st, Q, h, a, w, hr => wp_skip ⟨st, hr, h⟩
  | .label _, st, Q, h, a, w, hr => wp_label ⟨st, hr, h⟩
  | .region id ops draw, st, Q, h, a, w, hr => by
    unfold evCode at h
    cases draw with
    | false => exact wp_mono (evRegion_sound hT.tab h hr) fun e a w ⟨he, st', h1, h2⟩ => by subst he; exact ⟨st', h1, h2⟩
    | true =>
      exact wp_mono (drawG_sound hT h hr) fun e a w ⟨he, st', h1, h2⟩ => by subst he; exact ⟨st', h1, h2⟩
  | .seq x y, st, Q, h, a, w, hr => by
    refine wp_seq (wp_mono (evCode_sound hT hF x st _ h a w hr) fun e a' w' ⟨st', h1, h2⟩ => ?_)
    cases e with
    | normal => exact evCode_sound hT hF y st' Q h2 a' w' h1
    | _ => exact ⟨st', h1, h2⟩
  | .cond c x y, st, Q, h, a, w, hr => by
    obtain ⟨env, H, nx⟩ := st
    simp only [evCode] at h
    split at h
    · rename_i b hb
      have hv : a.eval c = .bool b := by
        obtain ⟨m, S, hc, hs, hd, hrel⟩ := hr
        have := (Rel.run (F := F) (st := ⟨env, H, nx⟩) hs hrel).read (a := a) trivial c
        rw [hb] at this
        exact relV_bool this
      exact wp_cond_split hv (fun hb => evCode_sound hT hF x _ Q (h.1 hb) a w hr) (fun hb => evCode_sound hT hF y _ Q (h.2 hb) a w hr)
    · exact h.elim
  | .block id body, st, Q, h, a, w, hr => by
    refine wp_block (wp_mono (evCode_sound hT hF body st _ h a w hr) fun e a' w' ⟨st', h1, h2⟩ => ?_)
    cases e with
    | exit id' =>
      simp only [blockQ] at h2
      by_cases e : id' = id
      · subst e
        simp only [Nat.beq_refl] at h2
        simp only [Exit.inBlock, if_true]
        exact ⟨st', h1, h2⟩
      · have hb : Nat.beq id' id = false := by
          cases h : Nat.beq id' id with
          | false => rfl
          | true => exact (e (Nat.eq_of_beq_eq_true h)).elim
        rw [hb] at h2
        simp only [Exit.inBlock, e, if_false]
        exact ⟨st', h1, h2⟩
    | _ => exact ⟨st', h1, h2⟩
  | .loop body, st, Q, h, a, w, hr => by
    obtain ⟨h⟩ := h
    exact h F a w hF hr
  | .exit id, st, Q, h, a, w, hr => wp_exit ⟨st, hr, h⟩
  | .ret, st, Q, h, a, w, hr => wp_ret ⟨st, hr, h⟩
  | .rangeFunc .., st, Q, h, a, w, hr => h.elim
  | .scope _, st, Q, h, a, w, hr => h.elim
  | .goto _, st, Q, h, a, w, hr => h.elim
  | .refuse _, st, Q, h, a, w, hr => h.elim

/-- One abstract state says no more than another. -/
def Wk [Tabs] (pn N : Nat) (st st' : St) : Prop := ∀ F a w, F.fits pn → Rel F N st a w → Rel F N st' a w

def loopQ [Tabs] {σ : Type _} (I : σ → Prop) (μ : σ → Nat) (n : Nat) (pn N : Nat) (st : σ → St) (Q : Exit → St → Prop) : Exit → St → Prop
  | .normal, st' => ∃ s, I s ∧ μ s < n ∧ Wk pn N st' (st s)
  | e, st' => Q e st'

theorem loop_inv [Tabs] {C : Cx} (hT : CxOk C) {body : Code} {st0 : St} {Q : Exit → St → Prop} {σ : Type _} (I : σ → Prop) (μ : σ → Nat) (st : σ → St) (s0 : σ) (h0 : I s0) (hw : Wk C.pn C.N st0 (st s0))
    (round : ∀ s, I s → evCode C body (st s) (loopQ I μ (μ s) C.pn C.N st Q)) : LoopG C body st0 Q := by
  refine ⟨fun F a w hF hr b k cs => ?_⟩
  have key : ∀ n s a w, μ s = n → I s → Rel F C.N (st s) a w →
      ∃ e a' w', (∃ st', Rel F C.N st' a' w' ∧ Q e st') ∧ Arrives C.P (lone (b.at a (.code body :: .inLoop body :: k)) cs w) b k cs e a' w' := by
    intro n
    induction n using Nat.strongRecOn with
    | _ n ih =>
      intro s a w hn hI hR
      obtain ⟨e, a₁, w₁, ⟨st', h1, h2⟩, harr⟩ := evCode_sound hT hF body (st s) _ (round s hI) a w hR b (.inLoop body :: k) cs
      cases e with
      | normal =>
        obtain ⟨s', hI', hlt, hwk⟩ := h2
        obtain ⟨e₂, a₂, w₂, hq₂, harr₂⟩ := ih (μ s') (hn ▸ hlt) s' a₁ w₁ rfl hI' (hwk F a₁ w₁ hF h1)
        exact ⟨e₂, a₂, w₂, hq₂, .of_steps (Steps.trans harr (.one step_inLoop)) harr₂⟩
      | exit id => exact ⟨_, a₁, w₁, ⟨st', h1, h2⟩, .pass (x := .inLoop body) rfl (fun _ _ => .inl (by simp)) harr⟩
      | goto l => exact ⟨_, a₁, w₁, ⟨st', h1, h2⟩, .pass (x := .inLoop body) rfl (fun _ _ => .inl (by simp)) harr⟩
      | ret => exact ⟨_, a₁, w₁, ⟨st', h1, h2⟩, .pass (x := .inLoop body) rfl (fun _ _ => .inl (by simp)) harr⟩
      | panic ch => exact ⟨_, a₁, w₁, ⟨st', h1, h2⟩, .pass (x := .inLoop body) rfl (fun _ _ => .inl (by simp)) harr⟩
      | outgrown => exact ⟨_, a₁, w₁, ⟨st', h1, h2⟩, .pass (x := .inLoop body) rfl (fun _ _ => .inl (by simp)) harr⟩
  obtain ⟨e, a', w', hq, harr⟩ := key _ s0 a w rfl h0 (hw F a w hF hr)
  exact ⟨e, a', w', hq, .of_steps (.one step_loop) harr⟩

/-! ### A function -/

def argEnv : List AV → Nat → Env
  | [], _ => []
  | a :: l, i => (i, a) :: argEnv l (i + 1)

/-- All are trees. -/
def treesB : List AV → Bool
  | [] => true
  | a :: l => match a.tree with
    | true => treesB l
    | false => false
def AB.trees : AB → Bool
  | .cells _ l => treesB l
  | _ => true

theorem treesB_spec : ∀ {l : List AV}, treesB l = true → ∀ a ∈ l, a.tree = true
  | [], _, a, h => by simp at h
  | b :: l, h, a, ha => by
    unfold treesB at h
    split at h
    · rename_i hb
      rcases List.mem_cons.1 ha with rfl | ha
      · exact hb
      · exact treesB_spec h a ha
    · cases h

/-- The results, as the caller gets them. -/
def resK (T : Tab) : List ResultVar → St → List AR → List Nat → (List AR → Prop) → Prop
  | [], _, acc, _, k => k acc.reverse
  | .tmp t :: r, st, acc, used, k => match lk st.env t with
    | .own id => match notIn id used with
      | false => False
      | true => match lkH st.heap id with
        | .lst e E l => resK T r st (.new (.lst e E l) :: acc) (id :: used) k
        | .row e E enc d xs => resK T r st (.new (.row e E enc d xs) :: acc) (id :: used) k
        | _ => False
    | .map id => match notIn id used with
      | false => False
      | true => match lkH st.heap id with
        | .smap ev dv es => resK T r st (.new (.smap ev dv es) :: acc) (id :: used) k
        | .imap kk ev dv es => resK T r st (.new (.imap kk ev dv es) :: acc) (id :: used) k
        | _ => False
    | .ptr id 0 => match notIn id used with
      | false => False
      | true => match lkH st.heap id with
        | .cells e l => match treesB l with
          | true => resK T r st (.new (.cells e l) :: acc) (id :: used) k
          | false => False
        | _ => False
    | v => forceAV v fun v => match v.tree with
      | true => resK T r st (.val v :: acc) used k
      | false => False
  | .cell t ty :: r, st, acc, used, k => evLoad T none st.heap st.nx ty (lk st.env t) fun res => match res with
    | ⟨v, _, _, _⟩ => forceAV v fun v => match v.tree with
      | true => resK T r st (.val v :: acc) used k
      | false => False

def retQ (T : Tab) (rs : Array ResultVar) (R : List AR → Prop) : Exit → St → Prop
  | .normal, st => resK T rs.toList st [] [] R
  | .ret, st => resK T rs.toList st [] [] R
  | _, _ => False

theorem relB_move {m m' : Ids} {S : Blocks} {w : World} {id n : Nat} {b : AB} {v : Value} (h : RelB m S w id b) (hm : m id = some v) (hm' : m' n = some v) (hb : b.trees = true) : RelB m' S w n b := by
  cases b with
  | dead => trivial
  | cells e l =>
    obtain ⟨g, cs, hmi, hg, hl, h1, hr⟩ := h
    rw [hmi] at hm
    cases hm
    exact ⟨g, cs, hm', hg, hl, h1, fun j c a hj ha => .t _ _ ((hr j c a hj ha).toT (treesB_spec hb a (List.mem_of_getElem? ha)))⟩
  | arr e k n' f => obtain ⟨g, cs, hmi, hr⟩ := h; rw [hmi] at hm; cases hm; exact ⟨g, cs, hm', hr⟩
  | lst e E l => obtain ⟨v', vs, hmi, hr⟩ := h; rw [hmi] at hm; cases hm; exact ⟨_, vs, hm', hr⟩
  | row e E enc d xs => obtain ⟨v', vs, hmi, hr⟩ := h; rw [hmi] at hm; cases hm; exact ⟨_, vs, hm', hr⟩
  | smap ev dv es => obtain ⟨r, en, clock, hmi, hr⟩ := h; rw [hmi] at hm; cases hm; exact ⟨r, en, clock, hm', hr⟩
  | imap k ev dv es => obtain ⟨r, en, clock, hmi, hr⟩ := h; rw [hmi] at hm; cases hm; exact ⟨r, en, clock, hm', hr⟩
  | que e E enc d xs => obtain ⟨g, o, cap, cur, hmi, hr⟩ := h; rw [hmi] at hm; cases hm; exact ⟨g, o, cap, cur, hm', hr⟩
theorem relB_single {m : Ids} {S : Blocks} {w : World} {id : Nat} {b : AB} {v : Value} (h : RelB m S w id b) (hm : m id = some v) (hb : b.trees = true) : ∀ n, RelB (fun i => if i = n then some v else none) S w n b := by
  intro n
  exact relB_move h hm (by simp) hb
/-- The values of the result slots. -/
def slotVal (P : Program) (a : Act) (w : World) : ResultVar → Value
  | .tmp t => a.tmps.getD t undef
  | .cell t ty => match a.tmps.getD t undef with
    | .pointer (some p) => match (loadVar ty p).run P w with
      | .ok v _ => v
      | _ => undef
    | _ => undef

def slotVals (P : Program) (rs : List ResultVar) (a : Act) (w : World) : List Value := rs.map (slotVal P a w)

/-- A result can be had. -/
def SlotRun (P : Program) (a : Act) (w : World) : ResultVar → Prop
  | .tmp _ => True
  | .cell t ty => ∃ p v, a.tmps.getD t undef = .pointer (some p) ∧ (loadVar ty p).run P w = .ok v w

/-- What is known of each result: a tree, or an object by its number. -/
inductive ResRel (m : Ids) (S : Blocks) (w : World) (H : Heap) (v : Value) : AR → Option Nat → Prop
  | val (a : AV) (h : RelT S w v a) : ResRel m S w H v (.val a) none
  | obj (id : Nat) (b : AB) (hm : m id = some v) (hl : lkH H id = b) (hlive : b.live = true) (hb : b.trees = true) : ResRel m S w H v (.new b) (some id)

theorem resK_sound [Tabs] {P : Program} {T : Tab} (hT : TabOk P T) {m : Ids} {S : Blocks} {w : World} {st : St} {a : Act} (hG : Good m S w st.heap) (hrel : ∀ s, RelV m S w (a.tmps.getD s undef) (lk st.env s)) :
    ∀ (rs : List ResultVar) (acc : List AR) (used : List Nat) (k : List AR → Prop), resK T rs st acc used k →
      ∃ (rs' : List AR) (ids : List (Option Nat)), k (acc.reverse ++ rs') ∧ rs'.length = rs.length ∧ ids.length = rs.length ∧
        (∀ (j : Nat) (v : Value) (r : AR) (o : Option Nat), (slotVals P rs a w)[j]? = some v → rs'[j]? = some r → ids[j]? = some o → ResRel m S w st.heap v r o) ∧
        (∀ (i j x : Nat), ids[i]? = some (some x) → ids[j]? = some (some x) → i = j) ∧ (∀ x, some x ∈ ids → x ∉ used) ∧ ∀ r ∈ rs, SlotRun P a w r
  | [], acc, used, k, h => ⟨[], [], by simpa [resK] using h, rfl, rfl, fun j v r o h => by simp [slotVals] at h, fun i j x h => by simp at h, by simp, by simp⟩
  | r0 :: r, acc, used, k, h => by
    have put : ∀ (x : AR) (o : Option Nat) (used' : List Nat), SlotRun P a w r0 → ResRel m S w st.heap (slotVal P a w r0) x o → (∀ i, o = some i → i ∉ used ∧ used' = i :: used) → (o = none → used' = used) → resK T r st (x :: acc) used' k →
        ∃ (rs' : List AR) (ids : List (Option Nat)), k (acc.reverse ++ rs') ∧ rs'.length = (r0 :: r).length ∧ ids.length = (r0 :: r).length ∧
          (∀ (j : Nat) (v : Value) (r' : AR) (o : Option Nat), (slotVals P (r0 :: r) a w)[j]? = some v → rs'[j]? = some r' → ids[j]? = some o → ResRel m S w st.heap v r' o) ∧
          (∀ (i j x : Nat), ids[i]? = some (some x) → ids[j]? = some (some x) → i = j) ∧ (∀ x, some x ∈ ids → x ∉ used) ∧ ∀ r' ∈ r0 :: r, SlotRun P a w r' := by
      intro x o used' hrun hx ho1 ho2 hk
      obtain ⟨rs', ids, h1, h2, h3, h4, h5, h6, h7⟩ := resK_sound hT hG hrel r _ _ k hk
      refine ⟨x :: rs', o :: ids, by simpa using h1, by simp [h2], by simp [h3], fun j v r' o' p q s => ?_, fun i j y p q => ?_, fun y hy => ?_, fun r' hr' => ?_⟩
      · cases j with
        | zero =>
          simp only [slotVals, List.map_cons, List.getElem?_cons_zero, Option.some.injEq] at p q s
          subst p; subst q; subst s; exact hx
        | succ j => exact h4 j v r' o' (by simpa [slotVals] using p) (by simpa using q) (by simpa using s)
      · cases i with
        | zero => cases j with
          | zero => rfl
          | succ j =>
            simp at p q
            subst p
            have := h6 y (List.mem_of_getElem? q)
            rw [(ho1 y rfl).2] at this
            exact (this (by simp)).elim
        | succ i => cases j with
          | zero =>
            simp at p q
            subst q
            have := h6 y (List.mem_of_getElem? p)
            rw [(ho1 y rfl).2] at this
            exact (this (by simp)).elim
          | succ j => have := h5 i j y (by simpa using p) (by simpa using q); omega
      · rcases List.mem_cons.1 hy with hy | hy
        · exact (ho1 y hy.symm).1
        · have := h6 y hy
          cases o with
          | none => rw [ho2 rfl] at this; exact this
          | some i => rw [(ho1 i rfl).2] at this; intro hu; exact this (by simp [hu])
      · rcases List.mem_cons.1 hr' with rfl | hr'
        · exact hrun
        · exact h7 r' hr'
    match r0, put, h with
    | .cell t ty, put, h =>
    unfold resK at h
    let o : Oper := { dst := none, op := .load ty (.tmp t), type := 0, pos := "", after := #[], guard := none }
    obtain ⟨res, hsem, _, h⟩ := evLoad_sound (P := P) (T := T) hT (g := none) (rd := fun x => match x with | .tmp s => lk st.env s | _ => .undef) (o := o) (x := .tmp t) rfl h
    obtain ⟨v, touch, wr, nx'⟩ := res
    simp only [forceAV_iff] at h
    obtain ⟨_, hsem⟩ := hsem trivial
    obtain ⟨u, hu, hru⟩ := hsem m S w a st.heap hG (fun _ _ => rfl) (fun x hx _ => by
      simp only [List.mem_singleton] at hx
      subst hx
      exact hrel t)
    have hu := hu w ⟨Nat.le_refl _, fun _ _ => rfl⟩
    have hld : ∃ p, a.tmps.getD t undef = .pointer (some p) ∧ (loadVar ty p).run P w = .ok u w := by
      unfold execOp at hu
      have he : a.eval (.tmp t) = a.tmps.getD t undef := rfl
      simp only [o, he, Instr.loadAt, Instr.sureAddr] at hu
      generalize a.tmps.getD t undef = v0 at hu ⊢
      cases v0 with
      | pointer p0 =>
        cases p0 with
        | none => simp [stuck, Sem.run_bind, Result.andThen] at hu
        | some p =>
          refine ⟨p, rfl, ?_⟩
          simp only [Sem.run_bind, Sem.run_pure, Result.andThen_ok] at hu
          cases hr : (loadVar ty p).run P w with
          | ok v1 w1 => rw [hr] at hu; simp at hu; rw [hu.1, hu.2]
          | _ => rw [hr] at hu; simp [Result.andThen] at hu
      | _ => simp [stuck, Sem.run_bind, Result.andThen] at hu
    obtain ⟨p, hp, hl⟩ := hld
    split at h
    · rename_i htr
      refine put (.val v) none used ⟨p, u, hp, hl⟩ (.val _ ?_) (fun i hi => by cases hi) (fun _ => rfl) h
      have : slotVal P a w (.cell t ty) = u := by simp only [slotVal, hp, hl]
      rw [this]
      exact hru.toT htr
    · exact h.elim
    | .tmp t, put, h =>
    have hv := hrel t
    unfold resK at h
    have put : ∀ (x : AR) (o : Option Nat) (used' : List Nat), ResRel m S w st.heap (a.tmps.getD t undef) x o → (∀ i, o = some i → i ∉ used ∧ used' = i :: used) → (o = none → used' = used) → resK T r st (x :: acc) used' k → _ :=
      fun x o used' => put x o used' trivial
    split at h
    · rename_i id hl
      rw [hl] at hv
      split at h
      · exact h.elim
      · rename_i hn
        have hmid : m id = some (a.tmps.getD t undef) := by
          generalize a.tmps.getD t undef = v at hv
          cases hv with
          | t _ _ h => cases h
          | own id n cap ad hm => exact hm
        split at h
        · rename_i e E l hid
          exact put _ (some id) _ (.obj id _ hmid hid rfl rfl) (fun i hi => by cases hi; exact ⟨fun hu => notIn_spec hn _ hu rfl, rfl⟩) (fun h => by cases h) h
        · rename_i T e E enc d xs hid
          exact put _ (some id) _ (.obj id _ hmid hid rfl rfl) (fun i hi => by cases hi; exact ⟨fun hu => notIn_spec hn _ hu rfl, rfl⟩) (fun h => by cases h) h
        · exact h.elim
    · rename_i id hl
      rw [hl] at hv
      split at h
      · exact h.elim
      · rename_i hn
        have hmid : m id = some (a.tmps.getD t undef) := by
          generalize a.tmps.getD t undef = v at hv
          cases hv with
          | t _ _ h => cases h
          | map id r hm => exact hm
        split at h
        · rename_i V ev dv es hid
          exact put _ (some id) _ (.obj id _ hmid hid rfl rfl) (fun i hi => by cases hi; exact ⟨fun hu => notIn_spec hn _ hu rfl, rfl⟩) (fun h => by cases h) h
        · rename_i V kk ev dv es hid
          exact put _ (some id) _ (.obj id _ hmid hid rfl rfl) (fun i hi => by cases hi; exact ⟨fun hu => notIn_spec hn _ hu rfl, rfl⟩) (fun h => by cases h) h
        · exact h.elim
    · rename_i id hl
      rw [hl] at hv
      split at h
      · exact h.elim
      · rename_i hn
        have hmid : ∀ e l, lkH st.heap id = .cells e l → m id = some (a.tmps.getD t undef) := by
          intro e l hid
          have hb := hG.rel id
          rw [hid] at hb
          obtain ⟨g, cs, hmi, _⟩ := hb
          generalize a.tmps.getD t undef = v at hv
          cases hv with
          | t _ _ h => cases h
          | ptr id off g' hm => exact hm
        split at h
        · rename_i e l hid
          split at h
          · rename_i htr
            exact put _ (some id) _ (.obj id _ (hmid e l hid) hid rfl htr) (fun i hi => by cases hi; exact ⟨fun hu => notIn_spec hn _ hu rfl, rfl⟩) (fun h => by cases h) h
          · exact h.elim
        · exact h.elim
    · rw [forceAV_iff] at h
      split at h
      · rename_i htr
        exact put _ none _ (.val _ (hv.toT htr)) (fun i hi => by cases hi) (fun _ => rfl) h
      · exact h.elim

theorem run_results {P : Program} {fn : Func} {w : World} {a : Act} (h : ∀ r ∈ fn.results.toList, SlotRun P a w r) (hn : fn.results.size ≤ 4) : (results fn a.tmps).run P w = Result.ok (retVal (slotVals P fn.results.toList a w)) w := by
  obtain ⟨l, hl⟩ : ∃ l, fn.results = Array.mk l := ⟨fn.results.toList, rfl⟩
  rw [hl] at h hn
  simp only [List.size_toArray] at hn
  have one : ∀ r, SlotRun P a w r → (∃ t, r = .tmp t) ∨ ∃ t ty p v, r = .cell t ty ∧ a.tmps[t]?.getD undef = .pointer (some p) ∧ (loadVar ty p).run P w = .ok v w := by
    intro r hr
    cases r with
    | tmp t => exact .inl ⟨t, rfl⟩
    | cell t ty => obtain ⟨p, v, h1, h2⟩ := hr; exact .inr ⟨t, ty, p, v, rfl, by simpa using h1, h2⟩
  match l, h, hn with
  | [], h, hn => simp [results, hl, slotVals, retVal]
  | [r0], h, hn =>
    rcases one r0 (h r0 (by simp)) with ⟨t0, rfl⟩ | ⟨t0, y0, p0, v0, rfl, a0, b0⟩ <;> simp [results, hl, slotVals, slotVal, retVal, asAddr, *]
  | [r0, r1], h, hn =>
    rcases one r0 (h r0 (by simp)) with ⟨t0, rfl⟩ | ⟨t0, y0, p0, v0, rfl, a0, b0⟩ <;> rcases one r1 (h r1 (by simp)) with ⟨t1, rfl⟩ | ⟨t1, y1, p1, v1, rfl, a1, b1⟩ <;> simp [results, hl, slotVals, slotVal, retVal, asAddr, *]
  | [r0, r1, r2], h, hn =>
    rcases one r0 (h r0 (by simp)) with ⟨t0, rfl⟩ | ⟨t0, y0, p0, v0, rfl, a0, b0⟩ <;> rcases one r1 (h r1 (by simp)) with ⟨t1, rfl⟩ | ⟨t1, y1, p1, v1, rfl, a1, b1⟩ <;>
      rcases one r2 (h r2 (by simp)) with ⟨t2, rfl⟩ | ⟨t2, y2, p2, v2, rfl, a2, b2⟩ <;> simp [results, hl, slotVals, slotVal, retVal, asAddr, *]
  | [r0, r1, r2, r3], h, hn =>
    rcases one r0 (h r0 (by simp)) with ⟨t0, rfl⟩ | ⟨t0, y0, p0, v0, rfl, a0, b0⟩ <;> rcases one r1 (h r1 (by simp)) with ⟨t1, rfl⟩ | ⟨t1, y1, p1, v1, rfl, a1, b1⟩ <;>
      rcases one r2 (h r2 (by simp)) with ⟨t2, rfl⟩ | ⟨t2, y2, p2, v2, rfl, a2, b2⟩ <;> rcases one r3 (h r3 (by simp)) with ⟨t3, rfl⟩ | ⟨t3, y3, p3, v3, rfl, a3, b3⟩ <;> simp [results, hl, slotVals, slotVal, retVal, asAddr, *]
  | _ :: _ :: _ :: _ :: _ :: _, h, hn => simp at hn

theorem lk_argEnv : ∀ (args : List AV) (i s : Nat), lk (argEnv args i) s = if i ≤ s then args.getD (s - i) .undef else .undef
  | [], i, s => by simp [argEnv, lk]
  | a :: l, i, s => by
    rw [argEnv, lk_cons, lk_argEnv l (i + 1) s]
    by_cases h1 : i = s
    · subst h1; simp
    · rw [if_neg h1]
      by_cases h2 : i ≤ s
      · rw [if_pos h2, if_pos (by omega)]
        obtain ⟨q, hq⟩ : ∃ q, s - i = q + 1 := ⟨s - i - 1, by omega⟩
        rw [hq, show s - (i + 1) = q by omega]
        simp
      · rw [if_neg h2, if_neg (by omega)]

/-- The contract of a function, out of its code. -/
theorem apure_of0 [Tabs] {C : Cx} (hT : CxOk C) {f : FuncId} {fn : Func} {code : Code} {args : List AV} {R : List AR → Prop} (hf : C.P.funcs[f]? = some fn) (hb : fn.body = some code) (hname : (fn.name == "runtime.NumGoroutine") = false)
    (hN : C.N = fn.ntmps) (hle : args.length ≤ fn.ntmps) (hres : fn.results.size ≤ 4) (h : ∀ F a w, F.fits C.pn → Rel F C.N ⟨argEnv args 0, [], 0⟩ a w → code.wp C.P (fun e a' w' => ∃ st', Rel F C.N st' a' w' ∧ retQ C.T fn.results R e st') a w) : APure C.P f args R := by
  refine ⟨⟨fn, hf, by rw [hb]; rfl, hname⟩, fun S w vs hS hTb ⟨hlen, hrel⟩ => calls_of_wp hf hb ?_⟩
  let F : Fr := ⟨w, fun _ => False, S, fun _ => none⟩
  have hrel0 : Rel F C.N ⟨argEnv args 0, [], 0⟩ { tmps := vs.toArray ++ Array.replicate (fn.ntmps - vs.toArray.size) undef, defers := [] } w := by
    refine ⟨fun _ => none, S, ⟨⟨fun id => trivial, fun i j vi vj k hl => by simp [lkH, AB.live] at hl, fun g hg => ⟨hS g hg, fun i v hl => by simp [lkH, AB.live] at hl⟩, hTb⟩, fun _ _ => rfl, Far.refl _ _, fun k ⟨i, v, hl, _⟩ => by simp [lkH, AB.live] at hl, fun g hg => .inl hg, fun g hg => hg, fun i v h => by cases h⟩, by simp; omega, rfl, fun s => ?_⟩
    rw [lk_argEnv, if_pos (Nat.zero_le _), Nat.sub_zero]
    by_cases hs : s < args.length
    · have h1 : args[s]? = some (args.getD s .undef) := by simp [List.getD, List.getElem?_eq_getElem hs]
      have h2 : vs[s]? = some ((vs.toArray ++ Array.replicate (fn.ntmps - vs.toArray.size) undef).getD s undef) := by
        have : s < vs.length := by omega
        simp [Array.getElem?_append, this]
      exact .t _ _ (hrel s _ _ h2 h1)
    · have : args.getD s .undef = .undef := by simp [List.getD, List.getElem?_eq_none (by omega : args.length ≤ s)]
      rw [this]
      exact .t _ _ (.undef _)
  refine wp_mono (h F _ w (fun i v h => by cases h) hrel0) fun e a' w' ⟨st', ⟨m, S', hc, hs, hd, hr⟩, hq⟩ => ?_
  have fin : resK C.T fn.results.toList st' [] [] R → a'.defers = [] ∧ ∃ v, (results fn a'.tmps).run C.P w' = .ok v w' ∧ ∃ us rs S', Ending.returned v = .returned (retVal us) ∧ R rs ∧ Left S w us rs S' w' := by
    intro hq
    obtain ⟨rs, ids, h1, h2, h3, h4, h5, _, h7⟩ := resK_sound hT.tab hc.good hr _ _ _ _ hq
    have hlenv : (slotVals C.P fn.results.toList a' w').length = rs.length := by rw [h2]; simp [slotVals]
    refine ⟨hd, _, run_results h7 hres, slotVals C.P fn.results.toList a' w', rs, S', rfl, by simpa using h1, ⟨hlenv, fun j u r hu hr' => ?_, hc.far.below (fun k _ h => h), hc.ro0, fun g hg => (hc.ro g hg).elim .inl (fun h => h.elim (fun h => h.elim) .inr), fun g hg => (hc.good.ro g hg).1, fun i u b k hu hb hk => ?_⟩⟩
    · obtain ⟨o, ho⟩ : ∃ o, ids[j]? = some o := ⟨_, List.getElem?_eq_getElem (by
        have := (List.getElem?_eq_some_iff.1 hr').1
        omega)⟩
      cases h4 j u r o hu hr' ho with
      | val a h => exact h
      | obj id b hm hl hlive hb =>
        refine ⟨hlive, fun k hk => ?_, relB_single (by rw [← hl]; exact hc.good.rel id) hm hb⟩
        rcases hc.owns k ⟨id, u, by rw [hl]; exact hlive, hm, hk⟩ with h | h
        · exact h.elim
        · exact h
    · obtain ⟨o, ho⟩ : ∃ o, ids[i]? = some o := ⟨_, List.getElem?_eq_getElem (by
        have := (List.getElem?_eq_some_iff.1 hb).1
        omega)⟩
      cases h4 i u (.new b) o hu hb ho with
      | obj id _ hm hl hlive hbc =>
        refine ⟨fun hSk => (hc.good.ro k hSk).2 id u (by rw [hl]; exact hlive) hm hk, fun j u' b' hu' hb' hk' => ?_⟩
        obtain ⟨o', ho'⟩ : ∃ o, ids[j]? = some o := ⟨_, List.getElem?_eq_getElem (by
          have := (List.getElem?_eq_some_iff.1 hb').1
          omega)⟩
        cases h4 j u' (.new b') o' hu' hb' ho' with
        | obj id' _ hm' hl' hlive' hbc' =>
          have := hc.good.sep id id' u u' k (by rw [hl]; exact hlive) (by rw [hl']; exact hlive') hm hm' hk hk'
          subst this
          exact h5 i j id ho ho'
  cases e with
  | normal => exact fin hq
  | ret => exact fin hq
  | _ => exact hq.elim

/-! ### The table of types -/

theorem apure_of [Tabs] {C : Cx} (hT : CxOk C) {f : FuncId} {fn : Func} {code : Code} {args : List AV} {R : List AR → Prop} (hf : C.P.funcs[f]? = some fn) (hb : fn.body = some code) (hname : (fn.name == "runtime.NumGoroutine") = false)
    (hN : C.N = fn.ntmps) (hle : args.length ≤ fn.ntmps) (hres : fn.results.size ≤ 4) (h : evCode C code ⟨argEnv args 0, [], 0⟩ (retQ C.T fn.results R)) : APure C.P f args R :=
  apure_of0 hT hf hb hname hN hle hres fun _ a w hF hr => evCode_sound hT hF code _ _ h a w hr

/-- At the end, the state may be weakened. -/
def wkQ [Tabs] (pn N : Nat) (Q : Exit → St → Prop) (e : Exit) (st : St) : Prop := ∃ st', Wk pn N st st' ∧ Q e st'

theorem Wk.refl [Tabs] {pn N : Nat} (st : St) : Wk pn N st st := fun _ _ _ _ h => h
theorem Wk.trans [Tabs] {pn N : Nat} {a b c : St} (h : Wk pn N a b) (k : Wk pn N b c) : Wk pn N a c := fun F x w hF hr => k F x w hF (h F x w hF hr)

theorem apure_ofw [Tabs] {C : Cx} (hT : CxOk C) {f : FuncId} {fn : Func} {code : Code} {args : List AV} {R : List AR → Prop} (hf : C.P.funcs[f]? = some fn) (hb : fn.body = some code) (hname : (fn.name == "runtime.NumGoroutine") = false)
    (hN : C.N = fn.ntmps) (hle : args.length ≤ fn.ntmps) (hres : fn.results.size ≤ 4) (h : evCode C code ⟨argEnv args 0, [], 0⟩ (wkQ C.pn C.N (retQ C.T fn.results R))) : APure C.P f args R :=
  apure_of0 hT hf hb hname hN hle hres fun _ a w hF hr => wp_mono (evCode_sound hT hF code _ _ h a w hr) fun _ a' w' ⟨_, h1, st2, hw, hq⟩ => ⟨st2, hw _ a' w' hF h1, hq⟩

theorem loopG_wk [Tabs] {C : Cx} {body : Code} {st : St} {Q : Exit → St → Prop} (h : LoopG C body st (wkQ C.pn C.N Q)) : LoopG C body st Q := by
  obtain ⟨h⟩ := h
  exact ⟨fun F a w hF hr => wp_mono (h F a w hF hr) fun _ a' w' ⟨_, h1, st2, hw, hq⟩ => ⟨st2, hw _ a' w' hF h1, hq⟩⟩


def TabL (P : Program) : Tab → Prop
  | [] => True
  | (t, i) :: r => (P.underlying t, (P.info? t).map fun j => (j.size, j.bytes, j.zero)) = (some i.desc, some (i.size, i.bytes, some i.zero)) ∧ TabL P r

theorem tabOk_of {P : Program} : ∀ {T : Tab}, TabL P T → TabOk P T
  | [], _, t, i, h => by simp [lkT] at h
  | (t', i') :: r, hL, t, i, h => by
    have hc : lkT ((t', i') :: r) t = (match Nat.beq t' t with | true => some i' | false => lkT r t) := rfl
    rw [hc] at h
    split at h
    · rename_i hb
      have := Nat.eq_of_beq_eq_true hb
      subst this
      cases h
      have h1 := hL.1
      simp only [Prod.mk.injEq] at h1
      obtain ⟨h1, h2⟩ := h1
      refine ⟨h1, ?_⟩
      cases hj : P.info? t' with
      | none => rw [hj] at h2; cases h2
      | some j =>
        rw [hj] at h2
        simp only [Option.map_some, Option.some.injEq, Prod.mk.injEq] at h2
        exact ⟨j, rfl, h2⟩
    · exact tabOk_of hL.2 t i h

/-- A table's entry for a great array of integers: its zero is looked at cell by cell. -/
def zerosB (k : IntKind) : List Value → Nat → Bool
  | [], n => Nat.beq n 0
  | .int q m :: l, n + 1 => match Nat.beq (kidx q) (kidx k) && (match m with | .ofNat 0 => true | _ => false) with
    | true => zerosB k l n
    | false => false
  | _ :: _, _ => false

theorem zerosB_spec {k : IntKind} : ∀ {l : List Value} {n : Nat}, zerosB k l n = true → l = List.replicate n (.int k 0)
  | [], n, h => by
    have := Nat.eq_of_beq_eq_true h
    subst this
    rfl
  | .int q m :: l, n + 1, h => by
    unfold zerosB at h
    split at h
    · rename_i hc
      simp only [Bool.and_eq_true] at hc
      have hq := kidx_inj hc.1
      subst hq
      have hm : m = 0 := by
        have := hc.2
        split at this
        · rfl
        · cases this
      rw [zerosB_spec h, hm]
      rfl
    · cases h
  | .int q m :: l, 0, h => by simp [zerosB] at h
  | .bool _ :: _, _, h => by simp [zerosB] at h
  | .float .. :: _, _, h => by simp [zerosB] at h
  | .string _ :: _, _, h => by simp [zerosB] at h
  | .pointer _ :: _, _, h => by simp [zerosB] at h
  | .slice .. :: _, _, h => by simp [zerosB] at h
  | .map _ :: _, _, h => by simp [zerosB] at h
  | .agg _ :: _, _, h => by simp [zerosB] at h
  | .tuple _ :: _, _, h => by simp [zerosB] at h
  | .nilFunc :: _, _, h => by simp [zerosB] at h
  | .func .. :: _, _, h => by simp [zerosB] at h
  | .nilIface :: _, _, h => by simp [zerosB] at h
  | .iface .. :: _, _, h => by simp [zerosB] at h
  | .chan _ :: _, _, h => by simp [zerosB] at h

def zeroOfB (k : IntKind) (n : Nat) (j : TypeInfo) : Bool :=
  match j.zero with
  | some (.agg cs) => zerosB k cs.toList n
  | _ => false

theorem big_entry {P : Program} {t : TypeId} {d : TypeDesc} {size bytes : Nat} {k : IntKind} (h1 : P.underlying t = some d) (h2 : (P.info? t).map (fun j => (j.size, j.bytes)) = some (size, bytes)) (h3 : (P.info? t).map (zeroOfB k size) = some true) :
    (P.underlying t, (P.info? t).map fun j => (j.size, j.bytes, j.zero)) = (some d, some (size, bytes, some (.agg (Array.replicate size (.int k 0))))) := by
  rw [h1]
  cases hj : P.info? t with
  | none => rw [hj] at h2; cases h2
  | some j =>
    rw [hj] at h2 h3
    simp only [Option.map_some, Option.some.injEq, Prod.mk.injEq] at h2 h3 ⊢
    refine ⟨trivial, h2.1, h2.2, ?_⟩
    unfold zeroOfB at h3
    split at h3
    · rename_i cs hz
      rw [hz]
      have := zerosB_spec h3
      cases cs with
      | mk l =>
        simp only at this
        subst this
        rfl
    · cases h3

end Go.Own
