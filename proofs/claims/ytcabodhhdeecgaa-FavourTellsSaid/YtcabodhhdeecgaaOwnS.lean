/-
  A region's operations in the text's order: sound for a plain region.
-/
import Derived.Test.YtcabodhhdeecgaaOwnR
namespace Go.Own

def putLoc (dst : Option Nat) (d : Nat) (v : AV) (loc : Loc) : Loc :=
  match dst with
  | none => loc
  | some t => (t, d, v) :: loc

def notTag (d : Nat) : List Lay → Bool
  | [] => true
  | l :: r => match Nat.beq l.tmp d with
    | true => false
    | false => notTag d r

def dstOk (N : Nat) (dst : Option Nat) (stk : List Lay) : Bool :=
  match dst with
  | none => true
  | some d => Nat.blt d N && notTag d stk

theorem notTag_spec {d : Nat} : ∀ {stk : List Lay}, notTag d stk = true → ∀ l ∈ stk, l.tmp ≠ d
  | [], _, l, h => by simp at h
  | l' :: r, h, l, hl => by
    unfold notTag at h
    split at h
    · cases h
    · rename_i hb
      rcases List.mem_cons.1 hl with rfl | hl
      · intro e; rw [e] at hb; simp at hb
      · exact notTag_spec h l hl

def sideVal (loc loc' : Loc) (env : Env) (stk stk' : List Lay) (tc : Nat) (side : Bool) : Operand → AV
  | .const v => avOf v
  | .tmp s => match look loc env s with
    | (d, v) => match Nat.ble d stk'.length with
      | true => (look loc' env s).2
      | false => match getLay d stk with
        | some l => match Nat.beq l.tmp tc && boolEq l.pol side with
          | true => v
          | false => .undef
        | none => .undef
  | _ => .undef

def evPick (loc loc' : Loc) (env : Env) (stk stk' : List Lay) (c a b : Operand) (k : AV → Prop) : Prop :=
  match c with
  | .tmp tc => match look loc' env tc with
    | (_, .bool cb) => match a with
      | .const (.bool true) => match sideVal loc loc' env stk stk' tc false b with
        | .bool y => k (.bool (cb || y))
        | _ => False
      | _ => match b with
        | .const (.bool false) => match sideVal loc loc' env stk stk' tc true a with
          | .bool x => k (.bool (cb && x))
          | _ => False
        | _ => False
    | _ => False
  | _ => False

def putK (dst : Option Nat) (stk : List Lay) (v : AV) (loc : Loc) (k : Loc → Prop) : Prop :=
  match dst with
  | none => k loc
  | some t => forceAV v fun v => lenK stk 0 fun d => k ((t, d, v) :: loc)

theorem putK_iff {dst : Option Nat} {stk : List Lay} {v : AV} {loc : Loc} {k : Loc → Prop} : putK dst stk v loc k ↔ k (putLoc dst stk.length v loc) := by
  cases dst <;> simp [putK, putLoc, forceAV_iff, lenK_iff]

/-- Does an operation write, or make something? -/
def effOp (T : Tab) (o : Oper) : Bool :=
  match o.op with
  | .alloc _ => true
  | .box _ _ => true
  | .buildSlice _ _ _ => true
  | .store _ _ _ => true
  | .mapUpdate _ _ _ _ => true
  | .makeMap _ _ => true
  | .makeSlice _ _ _ => true
  | .call c => match c.callee with
    | .builtin .append => true
    | .value _ => match lkT T o.type with
      | some ⟨.int _, _, _, _⟩ => false
      | some ⟨.bool, _, _, _⟩ => false
      | some ⟨.string, _, _, _⟩ => false
      | _ => true
    | _ => false
  | _ => false

def gated (T : Tab) (g : Option Bool) (o : Oper) : Option Bool :=
  match g with
  | none => none
  | some b => match effOp T o with
    | true => some b
    | false => none

theorem gated_some {T : Tab} {g : Option Bool} {o : Oper} {b : Bool} (h : gated T g o = some b) : g = some b := by
  unfold gated at h
  split at h
  · cases h
  · split at h
    · exact h
    · cases h

/-- One operation, and then what comes next: told once, since the kernel looks at all that stands here. -/
def stepK [Tabs] (C : Cx) (det : Bool) (o : Oper) (loc loc' : Loc) (env : Env) (stk stk' : List Lay) (H : Heap) (nx : Nat) (next : AV → List (Nat × AB) → Nat → Prop) : Prop :=
  match o.op with
  | .pick c a b => evPick loc loc' env stk stk' c a b fun v => next v [] nx
  | _ => match gated C.T (topG stk') o with
    | some b => (b = true → evOp C det none (rdOp loc' env) H nx o fun r => match r with
        | ⟨v, _, wr, nx'⟩ => next v wr nx') ∧ (b = false → next .undef [] nx)
    | none => evOp C det (topG stk') (rdOp loc' env) H nx o fun r => match r with
      | ⟨v, _, wr, nx'⟩ => next v wr nx'

/-- The operations, one after the other. -/
def evOps [Tabs] (C : Cx) (det : Bool) (all : List Oper) : List Oper → Loc → List Lay → Env → Heap → Nat → (Loc → Heap → Nat → Prop) → Prop
  | [], loc, _, _, H, nx, k => k loc H nx
  | o :: rest, loc, stk, env, H, nx, k => enter all o.guard loc env stk fun stk' loc' =>
    match dstOk C.N o.dst stk' with
    | false => False
    | true => stepK C det o loc loc' env stk stk' H nx fun v wr nx' => putK o.dst stk' v loc' fun loc2 => pushK wr H fun H' => evOps C det all rest loc2 stk' env H' nx' k

/-- What stays the same in a call: where it began, and which old blocks it may write. -/
structure Fr where
  w0 : World
  F0 : Blocks
  S0 : Blocks
  /-- Objects whose numbers stand fast. -/
  pin : Ids

structure Core [Tabs] (F : Fr) (m : Ids) (S : Blocks) (w : World) (H : Heap) (nx : Nat) : Prop where
  good : Good m S w H
  free : ∀ i, nx ≤ i → m i = none
  far : Far F.F0 F.w0 w
  owns : ∀ k, own m H k → F.F0 k ∨ F.w0.heap.size ≤ k
  ro : ∀ g, S g → F.S0 g ∨ F.F0 g ∨ F.w0.heap.size ≤ g
  ro0 : ∀ g, F.S0 g → S g
  pins : ∀ i v, F.pin i = some v → m i = some v

theorem Core.step [Tabs] {F : Fr} {m m' : Ids} {S S' : Blocks} {w w' : World} {H H' : Heap} {nx nx' : Nat} (h : Core F m S w H nx) (e : Ext m S w H nx nx' m' S' w' H') (hn : nx ≤ nx') : Core F m' S' w' H' nx' := by
  refine ⟨e.good, fun i hi => by rw [e.same i (by omega)]; exact h.free i (by omega), ?_, fun k hk => ?_, fun g hg => ?_, fun g hg => e.ros g (h.ro0 g hg), fun i v hi => e.ids i v (h.pins i v hi)⟩
  · refine h.far.trans e.far fun i hi ho => ?_
    rcases h.owns i ho with h | h
    · exact h
    · omega
  · rcases e.owns k hk with h1 | h1
    · exact h.owns k h1
    · exact .inr (Nat.le_trans h.far.size h1)
  · rcases e.fresh g hg with h1 | h1 | h1
    · exact h.ro g h1
    · exact .inr (h.owns g h1)
    · exact .inr (.inr (Nat.le_trans h.far.size h1))

theorem RunI.ext [Tabs] {F : Fr} {m m' : Ids} {S S' : Blocks} {w w' : World} {H H' : Heap} {nx nx' N : Nat} {tmps : Array Value} {loc : Loc} {env : Env} {stk : List Lay} (h : RunI m S w N tmps loc env stk) (hc : Core F m S w H nx) (e : Ext m S w H nx nx' m' S' w' H') :
    RunI m' S' w' N tmps loc env stk := by
  refine ⟨h.size, fun s => ?_, h.stk⟩
  have hr := h.rel s
  revert hr
  generalize look loc env s = q
  obtain ⟨d, a⟩ := q
  intro hr
  cases d with
  | zero => exact e.relV hc.good hr
  | succ d =>
    obtain ⟨l, h1, h2, h3⟩ := hr
    exact ⟨l, h1, fun hg => e.relV hc.good (h2 hg), h3⟩

theorem StkOk.set {tmps : Array Value} {d : Nat} {v : Value} : ∀ {stk : List Lay}, StkOk tmps stk → notTag d stk = true → StkOk (tmps.setIfInBounds d v) stk
  | [], _, _ => trivial
  | l :: r, h, hn => by
    have hne := notTag_spec hn
    refine ⟨StkOk.set h.1 ?_, ?_, h.2.2⟩
    · unfold notTag at hn
      split at hn
      · cases hn
      · exact hn
    · rw [← h.2.1]
      unfold yieldT
      rw [Array.getElem?_setIfInBounds_ne (fun e => hne l (by simp) e.symm)]

theorem getD_set {tmps : Array Value} {d s : Nat} {v : Value} (h : d < tmps.size) : (tmps.setIfInBounds d v).getD s undef = if d = s then v else tmps.getD s undef := by
  by_cases e : d = s
  · subst e; simp [Array.getD, h]
  · rw [if_neg e]
    by_cases hs : s < tmps.size
    · simp [Array.getD, hs, Array.getElem_setIfInBounds_ne hs (fun h => e h)]
    · simp [Array.getD, hs]

theorem look_put {t d : Nat} {v : AV} {loc : Loc} {env : Env} {s : Nat} : look ((t, d, v) :: loc) env s = if t = s then (d, v) else look loc env s := by
  show (match Nat.beq t s with | true => (d, v) | false => look loc env s) = _
  by_cases e : t = s
  · subst e; simp
  · have hb : Nat.beq t s = false := by
      cases h : Nat.beq t s with
      | false => rfl
      | true => exact (e (Nat.eq_of_beq_eq_true h)).elim
    rw [if_neg e, hb]

/-- The value was written. -/
theorem RunI.put {m : Ids} {S : Blocks} {w : World} {N : Nat} {a : Act} {loc : Loc} {env : Env} {stk : List Lay} (h : RunI m S w N a.tmps loc env stk) {dst : Option Nat} {v : Value} {av : AV} (hd : dstOk N dst stk = true)
    (hv : (gOk (topG stk) ∧ RelV m S w v av) ∨ (¬ gOk (topG stk) ∧ v = undef)) : RunI m S w N (a.put dst v).tmps (putLoc dst stk.length av loc) env stk := by
  cases dst with
  | none => exact h
  | some d =>
    simp only [dstOk, Bool.and_eq_true] at hd
    obtain ⟨h1, h2⟩ := hd
    have hlt : d < a.tmps.size := by rw [h.size]; simpa [Nat.blt_eq] using h1
    refine ⟨by simp [Act.put, h.size], fun s => ?_, h.stk.set h2⟩
    show EntRel m S w stk ((a.tmps.setIfInBounds d v).getD s undef) (look ((d, stk.length, av) :: loc) env s)
    rw [getD_set hlt, look_put]
    by_cases e : d = s
    · rw [if_pos e, if_pos e]
      cases stk with
      | nil =>
        rcases hv with ⟨_, hv⟩ | ⟨hn, _⟩
        · exact hv
        · exact (hn trivial).elim
      | cons l r =>
        refine ⟨l, by simp [getLay], fun hg => ?_, fun hg => ?_⟩
        · rcases hv with ⟨_, hv⟩ | ⟨hn, _⟩
          · exact hv
          · exact (hn hg).elim
        · rcases hv with ⟨hn, _⟩ | ⟨_, hv⟩
          · simp only [topG, gOk] at hn; rw [hg] at hn; cases hn
          · exact hv
    · rw [if_neg e, if_neg e]
      exact h.rel s

/-- Under guards that hold, what is read is what stands there. -/
theorem RunI.read {m : Ids} {S : Blocks} {w : World} {N : Nat} {a : Act} {loc : Loc} {env : Env} {stk : List Lay} (h : RunI m S w N a.tmps loc env stk) (hg : gOk (topG stk)) (x : Operand) : RelV m S w (a.eval x) (rdOp loc env x) := by
  cases x with
  | tmp s =>
    have hr := h.rel s
    show RelV m S w (a.tmps.getD s undef) (look loc env s).2
    revert hr
    generalize look loc env s = q
    obtain ⟨d, av⟩ := q
    intro hr
    cases d with
    | zero => exact hr
    | succ d =>
      obtain ⟨l, h1, h2, _⟩ := hr
      exact h2 (allG_mem (allG_top h.stk hg) l (getLay_mem h1))
  | const v => exact .t _ _ (relT_avOf S w v)
  | global g => exact .t _ _ (.undef _)
  | func f => exact .t _ _ (.fn _ _ _ _ _ rfl rfl (fun j c x hj => by simp at hj) (fun j c x hj => by simp at hj))

theorem relV_bool {m : Ids} {S : Blocks} {w : World} {v : Value} {b : Bool} (h : RelV m S w v (.bool b)) : v = .bool b := by
  cases h with
  | t _ _ h => cases h; rfl

theorem sideVal_sound {m : Ids} {S : Blocks} {w : World} {N : Nat} {a : Act} {loc loc' : Loc} {env : Env} {stk stk' : List Lay} (h : RunI m S w N a.tmps loc env stk) (h' : RunI m S w N a.tmps loc' env stk') (hg : gOk (topG stk'))
    {tc : Nat} {side : Bool} (hc : a.tmps.getD tc undef = .bool side) (x : Operand) : RelV m S w (a.eval x) (sideVal loc loc' env stk stk' tc side x) := by
  cases x with
  | const v => exact .t _ _ (relT_avOf S w v)
  | global g => exact .t _ _ (.undef _)
  | func f => exact .t _ _ (.undef _)
  | tmp s =>
    obtain ⟨d, av, hq⟩ : ∃ d av, look loc env s = (d, av) := ⟨_, _, rfl⟩
    have hr := h.rel s
    rw [hq] at hr
    unfold sideVal
    simp only [hq]
    split
    · exact h'.read hg (.tmp s)
    · split
      · rename_i l hl
        split
        · rename_i hb
          simp only [Bool.and_eq_true] at hb
          have e1 := Nat.eq_of_beq_eq_true hb.1
          have e2 : l.pol = side := by
            have := hb.2
            cases hlp : l.pol <;> cases side <;> simp [hlp, boolEq] at this ⊢
          cases d with
          | zero => exact hr
          | succ d =>
            obtain ⟨l', h1, h2, _⟩ := hr
            rw [hl] at h1
            cases h1
            refine h2 ?_
            have hmem := getLay_mem hl
            have hstk : ∀ {stk : List Lay}, StkOk a.tmps stk → ∀ l ∈ stk, (yieldT a.tmps l.tmp == some l.pol) = l.g := by
              intro stk
              induction stk with
              | nil => intro _ l h; simp at h
              | cons l r ih =>
                intro hs l' hl'
                rcases List.mem_cons.1 hl' with rfl | hl'
                · exact hs.2.1
                · exact ih hs.1 l' hl'
            rw [← hstk h.stk l hmem, e1, e2, yieldT_eq hc]
            simp
        · exact .t _ _ (.undef _)
      · exact .t _ _ (.undef _)

theorem evPick_sound {m : Ids} {S : Blocks} {w : World} {N : Nat} {loc loc' : Loc} {env : Env} {stk stk' : List Lay} {P : Program} {o : Oper} {c x y : Operand} (ho : o.op = .pick c x y) {k : AV → Prop} (hk : evPick loc loc' env stk stk' c x y k) :
    ∃ av, k av ∧ ∀ (a : Act), RunI m S w N a.tmps loc env stk → RunI m S w N a.tmps loc' env stk' → gOk (topG stk') → ∃ v, (execOp a.eval o).run P w = .ok (.value v) w ∧ RelV m S w v av := by
  unfold evPick at hk
  split at hk
  · rename_i tc
    split at hk
    · rename_i d cb hl
      have hcv : ∀ (a : Act), RunI m S w N a.tmps loc' env stk' → gOk (topG stk') → a.tmps.getD tc undef = .bool cb := by
        intro a h' hg
        have := h'.read (a := a) hg (.tmp tc)
        simp only [rdOp, hl] at this
        exact relV_bool this
      have hrun : ∀ (a : Act), RunI m S w N a.tmps loc' env stk' → gOk (topG stk') → (execOp a.eval o).run P w = .ok (.value (if cb then a.eval x else a.eval y)) w := by
        intro a h' hg
        have := hcv a h' hg
        unfold execOp
        have hev : a.eval (.tmp tc) = .bool cb := this
        simp [ho, hev, asBool]
      split at hk
      · split at hk
        · rename_i yb hs
          refine ⟨_, hk, fun a h h' hg => ⟨_, hrun a h' hg, ?_⟩⟩
          cases cb with
          | true => simp; exact .t _ _ (.bool true)
          | false =>
            have := sideVal_sound h h' hg (hcv a h' hg) y
            rw [hs] at this
            simpa using this
        · exact hk.elim
      · split at hk
        · split at hk
          · rename_i xb hs
            refine ⟨_, hk, fun a h h' hg => ⟨_, hrun a h' hg, ?_⟩⟩
            cases cb with
            | false => simp; exact .t _ _ (.bool false)
            | true =>
              have := sideVal_sound h h' hg (hcv a h' hg) x
              rw [hs] at this
              simpa using this
          · exact hk.elim
        · exact hk.elim
    · exact hk.elim
  · exact hk.elim

/-- The operations of a plain region. -/
theorem evOps_seq [Tabs] {C : Cx} (hT : TabOk C.P C.T) {det : Bool} {F : Fr} {all : List Oper} {Q : Exit → Act → World → Prop} : ∀ (rest : List Oper) (i : Nat) (loc : Loc) (stk : List Lay) (env : Env) (H : Heap) (nx : Nat) (k : Loc → Heap → Nat → Prop), (∀ j, rest[j]? = all[i + j]?) → evOps C det all rest loc stk env H nx k →
    (∀ (m : Ids) (S : Blocks) (w : World) (a : Act) (loc : Loc) (stk : List Lay) (H : Heap) (nx : Nat), k loc H nx → Core F m S w H nx → RunI m S w C.N a.tmps loc env stk → a.defers = [] → Q .normal a w) →
    ∀ (m : Ids) (S : Blocks) (w : World) (a : Act), Core F m S w H nx → RunI m S w C.N a.tmps loc env stk → a.defers = [] → wpOps C.P all.toArray Q (List.range' i rest.length) a w
  | [], i, loc, stk, env, H, nx, k, _, h, hQ, m, S, w, a, hc, hr, hd => hQ m S w a loc stk H nx h hc hr hd
  | o :: rest, i, loc, stk, env, H, nx, k, hall, h, hQ, m, S, w, a, hc, hr, hd => by
    have hi : all.toArray[i]? = some o := by
      have := hall 0
      simpa using this.symm
    have hall' : ∀ j, rest[j]? = all[i + 1 + j]? := fun j => by
      have := hall (j + 1)
      rw [List.getElem?_cons_succ] at this
      rw [this]
      congr 1
      omega
    obtain ⟨stk', loc', h, hr', hwant, hdep, _⟩ := enter_sound h hr
    rw [List.length_cons, List.range'_succ]
    simp only [wpOps, hi]
    split at h
    · exact h.elim
    · rename_i hdst
      have skip : ∀ (v : AV), ¬ gOk (topG stk') → (∀ (hr2 : RunI m S w C.N (a.put o.dst undef).tmps (putLoc o.dst stk'.length v loc') env stk'), wpOps C.P all.toArray Q (List.range' (i + 1) rest.length) (a.put o.dst undef) w) →
          (if Region.wanted o (yielded all.toArray a.tmps) = true then o.wp C.P a w (wpOps C.P all.toArray Q (List.range' (i + 1) rest.length)) Q ∨ (o.asks C.P a w ∧ LetsOut Q) else wpOps C.P all.toArray Q (List.range' (i + 1) rest.length) (a.put o.dst undef) w) := by
        intro v hg hnext
        rw [if_neg (fun hw => hg (hwant.1 hw))]
        exact hnext (hr'.put hdst (.inr ⟨hg, rfl⟩))
      have hdp : ∀ (v : Value), (a.put o.dst v).defers = [] := by
        intro v
        cases hdo : o.dst <;> simp [Act.put, hd]
      unfold stepK at h
      by_cases hg : gOk (topG stk')
      · rw [if_pos (hwant.2 hg)]
        left
        split at h
        · rename_i c x y ho
          obtain ⟨av, hk, hrun⟩ := evPick_sound (m := m) (S := S) (w := w) (N := C.N) (P := C.P) ho h
          obtain ⟨v, he, hv⟩ := hrun a hr hr' hg
          unfold Oper.wp
          rw [he, Oper.upon_value]
          exact evOps_seq hT rest (i + 1) _ stk' env H nx k hall' (pushK_iff.1 (putK_iff.1 hk)) hQ m S w _ hc (hr'.put hdst (.inl ⟨hg, hv⟩)) (hdp v)
        · split at h
          · rename_i b hb
            have hg' := gated_some hb
            have hbt : b = true := by rw [hg'] at hg; exact hg
            obtain ⟨touch, Rr, h1, h2, h3, h4⟩ := evOp_sound hT (h.1 hbt)
            refine h1 trivial m S w a H _ Q hc.good (fun _ _ => rfl) (fun i hi _ => hc.free i hi) (fun u hu _ => ?_) (fun r hR v m' S' w' hE hV => ?_)
            · obtain ⟨x, hx, rfl⟩ := List.mem_map.1 hu
              exact hr'.read hg x
            · obtain ⟨hn, hk⟩ := h4 r hR
              obtain ⟨rv, rt, rw, rn⟩ := r
              exact evOps_seq hT rest (i + 1) _ stk' env _ _ k hall' (pushK_iff.1 (putK_iff.1 hk)) hQ m' S' w' _ (hc.step hE hn) ((hr'.ext hc hE).put hdst (.inl ⟨hg, hV⟩)) (hdp v)
          obtain ⟨touch, Rr, h1, h2, h3, h4⟩ := evOp_sound hT h
          refine h1 hg m S w a H _ Q hc.good (fun _ _ => rfl) (fun i hi _ => hc.free i hi) (fun u hu _ => ?_) (fun r hR v m' S' w' hE hV => ?_)
          · obtain ⟨x, hx, rfl⟩ := List.mem_map.1 hu
            exact hr'.read hg x
          · obtain ⟨hn, hk⟩ := h4 r hR
            obtain ⟨rv, rt, rw, rn⟩ := r
            exact evOps_seq hT rest (i + 1) _ stk' env _ _ k hall' (pushK_iff.1 (putK_iff.1 hk)) hQ m' S' w' _ (hc.step hE hn) ((hr'.ext hc hE).put hdst (.inl ⟨hg, hV⟩)) (hdp v)
      · split at h
        · rename_i c x y ho
          obtain ⟨av, hk, _⟩ := evPick_sound (m := m) (S := S) (w := w) (N := C.N) (P := C.P) ho h
          exact skip av hg fun hr2 => evOps_seq hT rest (i + 1) _ stk' env H nx k hall' (pushK_iff.1 (putK_iff.1 hk)) hQ m S w _ hc hr2 (hdp undef)
        · split at h
          · rename_i b hb
            have hg' := gated_some hb
            have hbf : b = false := by
              rw [hg'] at hg
              cases b with
              | true => exact (hg rfl).elim
              | false => rfl
            exact skip .undef hg fun hr2 => evOps_seq hT rest (i + 1) _ stk' env H nx k hall' (pushK_iff.1 (putK_iff.1 (h.2 hbf))) hQ m S w _ hc hr2 (hdp undef)
          obtain ⟨touch, Rr, h1, h2, h3, h4⟩ := evOp_sound hT h
          have hne : topG stk' ≠ none := fun e => hg (by rw [e]; trivial)
          obtain ⟨r, hR, hwr, hnx⟩ := h2 hne
          obtain ⟨_, hk⟩ := h4 r ((hR r).2 rfl)
          obtain ⟨rv, rt, rw, rn⟩ := r
          simp only at hwr hnx
          subst hwr
          subst hnx
          refine skip rv hg fun hr2 => ?_
          exact evOps_seq hT rest (i + 1) _ stk' env _ _ k hall' (pushK_iff.1 (putK_iff.1 hk)) hQ m S w _ hc hr2 (hdp undef)

end Go.Own
