/-
  A region that draws its order and only looks: the text's order serves.
-/
import Derived.Test.YtcabodhhdeecgaaOwnS
import Derived.Deep.Quiet
namespace Go.Own

/-- The value of a number, a bool, a string. -/
def valD : AV → Option Value
  | .bool b => some (.bool b)
  | .int k n => some (.int k n)
  | .str l => some (.string ⟨l.toArray⟩)
  | _ => none

theorem valD_eq {m : Ids} {S : Blocks} {w : World} {v u : Value} {a : AV} (h : RelV m S w v a) (hd : valD a = some u) : v = u := by
  cases a <;> simp [valD] at hd
  all_goals subst hd
  · exact relV_bool h
  · exact relV_int h
  · cases h with
    | t _ _ h => cases h with
      | str s l hs => rw [← hs]

theorem valD_rel {m : Ids} {S : Blocks} {w : World} {u : Value} {a : AV} (hd : valD a = some u) : RelV m S w u a := by
  cases a <;> simp [valD] at hd
  all_goals subst hd
  · exact .t _ _ (.bool _)
  · exact .t _ _ (.int _ _)
  · exact .t _ _ (.str _ _ (by simp))

/-- The call of a function whose result is a number, a bool or a string. -/
inductive CallQ [Tabs] (P : Program) (f : FuncId) (avs : List AV) (H : Heap) (nx : Nat) (g : Option Bool) (k : Res → Prop) : Prop
  | mk (args' : List AV) (touch : List Nat) (a : AV) (v : Value) (hc : gOk g → APureV P f args' a) (hb : BorL (Lend H) avs args' touch) (ha : valD a = some v) (hk : k ⟨a, touch, [], nx⟩)

def evOpQ [Tabs] (C : Cx) (g : Option Bool) (rd : Operand → AV) (H : Heap) (nx : Nat) (o : Oper) (k : Res → Prop) : Prop :=
  match o.op with
  | .move x => k ⟨rd x, [], [], nx⟩
  | .assign x => k ⟨rd x, [], [], nx⟩
  | .build t parts => evBuild C.T nx t (parts.toList.map fun p => (p.1, rd p.2)) k
  | .load t x => evLoad C.T g H nx t (rd x) k
  | .nilCheck x => evNilCheck (rd x) fun v => k ⟨v, [], [], nx⟩
  | .binOp op t x y _ => evBin2 C.P C.T g op t (rd x) (rd y) fun v => k ⟨v, [], [], nx⟩
  | .lookup t x y ok => evLookup C.T H nx t (rd x) (rd y) ok k
  | .unOp op _ x => evUn g op (rd x) fun v => k ⟨v, [], [], nx⟩
  | .convert s d x => evConvert C.T g s d (rd x) fun v => k ⟨v, [], [], nx⟩
  | .makeFunc fn first cap => k ⟨.fn fn (first.toList.map rd) (cap.toList.map rd), [], [], nx⟩
  | .slice t x lo hi none => evSlice C.T g H nx t (rd x) (lo.map rd) (hi.map rd) k
  | .fieldAddr t x f => evFieldAddr C.T nx t (rd x) f k
  | .field t x f => evField C.T nx t (rd x) f k
  | .indexAddr t x i => match queOf H (rd x) with
    | some id => evIndexAddrQ C.T g H nx t id (rd i) k
    | none => evIndexAddr C.T g H nx t (rd x) (rd i) k
  | .index t x i => evIndex C.T g t (rd x) (rd i) fun v => k ⟨v, [], [], nx⟩
  | .extract x n => evExtract nx (rd x) n k
  | .call c => match c.callee with
    | .builtin .len => match c.args.toList, c.argTypes.toList with
      | [x], [t] => match queOf H (rd x) with
        | some id => evLenQ C.T H nx t id k
        | none => evLen C.T H nx t (rd x) k
      | _, _ => False
    | .builtin .min => match c.args.toList with
      | [x, y] => evMin false (rd x) (rd y) fun v => k ⟨v, [], [], nx⟩
      | _ => False
    | .builtin .max => match c.args.toList with
      | [x, y] => evMin true (rd x) (rd y) fun v => k ⟨v, [], [], nx⟩
      | _ => False
    | .value fop => match rd fop with
      | .fn (.func f) first cap => forceL (first ++ c.args.toList.map rd ++ cap) fun avs => CallQ C.P f avs H nx g k
      | _ => False
    | _ => False
  | _ => False

def OpSemQ [Tabs] (P : Program) (o : Oper) (us : Uses) (H : Heap) (v : AV) (touch : List Nat) : Prop :=
  ∀ (m : Ids) (S : Blocks) (w : World) (a : Act) (H₂ : Heap), Good m S w H₂ → (∀ id ∈ touch, lkH H₂ id = lkH H id) → (∀ u ∈ us, u.2.1 = true → RelV m S w (a.eval u.1) u.2.2) →
    ∃ u, RelV m S w u v ∧ ∀ w', RowKit.Below w.heap.size w w' → o.quietAt P a (RowKit.Below w.heap.size w) w' u

theorem OpSemP.quiet [Tabs] {P : Program} {o : Oper} {us us' : Uses} {H : Heap} {nx : Nat} {r : Res} (h : OpSemP P o us H nx r) (hu : ∀ u ∈ us, u ∈ us') : OpSemQ P o us' H r.v r.touch := by
  intro m S w a H₂ hG ht hus
  obtain ⟨u, hr, hv⟩ := h.2 m S w a H₂ hG ht (fun u hm => hus u (hu u hm))
  refine ⟨u, hv, fun w' hw' => ?_⟩
  unfold Oper.quietAt
  rw [hr w' ⟨hw'.size, hw'.block⟩]
  exact ⟨rfl, rfl⟩

theorem retVal_one {us : List Value} {u : Value} (h : us = [u]) : retVal us = u := by subst h; rfl

/-- The call of a quiet function, in whatever order. -/
theorem sem_callQ [Tabs] {P : Program} {o : Oper} {fop : Operand} {as : Array Operand} {ts : Array TypeId} (ho : o.op = .call { callee := .value fop, args := as, argTypes := ts })
    {rd : Operand → AV} {H : Heap} {f : FuncId} {first cap : List AV} (hf : rd fop = .fn (.func f) first cap) {args' : List AV} {touch : List Nat}
    (hb : BorL (Lend H) (first ++ as.toList.map rd ++ cap) args' touch) {av : AV} {v : Value} (hc : APureV P f args' av) (hv : valD av = some v) :
    OpSemQ P o ((fop :: as.toList).map fun y => (y, true, rd y)) H av touch := by
  intro m S w a H₂ hG ht hus
  have hfn : RelV m S w (a.eval fop) (rd fop) := hus (fop, true, rd fop) (by simp) rfl
  rw [hf] at hfn
  obtain ⟨fs, cs, hfv, hfl, hcl, r1, r3⟩ := relV_fn hfn
  obtain ⟨⟨fn, hfun, hbody, hname⟩, hcall⟩ := hc
  have hvs : (fs ++ as.map a.eval ++ cs) = (fs.toList ++ as.toList.map a.eval ++ cs.toList).toArray := by
    apply Array.ext'
    simp
  have hexec : ∀ w', (execOp a.eval o).run P w' = .ok (.enter f (fs.toList ++ as.toList.map a.eval ++ cs.toList).toArray) w' := by
    intro w'
    rw [← hvs]
    unfold execOp
    have hb' : ¬ fn.body = none := by intro e; simp [e] at hbody
    have hn' : ¬ fn.name = "runtime.NumGoroutine" := by simpa using hname
    simp [ho, resolve, hfv, Deferred.ofValue, invoke, callFunc, hfun, hn', hb']
  have r2 : ∀ (j : Nat) (c : Value) (p : AV), (as.toList.map a.eval)[j]? = some c → (as.toList.map rd)[j]? = some p → RelV m S w c p := by
    intro j c p hj hp
    simp only [List.getElem?_map, Option.map_eq_some_iff] at hj hp
    obtain ⟨y, hy, rfl⟩ := hj
    obtain ⟨y', hy', rfl⟩ := hp
    rw [hy] at hy'
    cases hy'
    exact hus (y, true, rd y) (List.mem_map.2 ⟨y, List.mem_cons.2 (.inr (List.mem_of_getElem? hy)), rfl⟩) rfl
  obtain ⟨hlen, hbor⟩ := borL_sound (lend_ok H) hb
  refine ⟨v, valD_rel hv, fun w' hw' => ?_⟩
  unfold Oper.quietAt
  rw [hexec w']
  refine ⟨rfl, ?_⟩
  have hlt : ∀ g, (S g ∨ lent m H₂ touch g) → g < w.heap.size := by
    rintro g (h | ⟨i, v, hi, hl, hm, hk⟩)
    · exact (hG.ro g h).1
    · exact hG.blk_lt hl hm hk
  refine (hcall (fun g => S g ∨ lent m H₂ touch g) w' _ (fun g hg => Nat.lt_of_lt_of_le (hlt g hg) hw'.size) (hG.tab.mono (fun _ h => .inl h) fun g hg => hw'.block g (hG.ro g hg).1) ⟨?_, ?_⟩).mono ?_
  · rw [hlen]
    simp [hfl, hcl]
  · intro j c p hj hp
    refine (hbor m S w H₂ (fun g => S g ∨ lent m H₂ touch g) hG ht (fun g h => .inl h) (fun g h => .inr h) _ (by simp [hfl, hcl]) (list3_get (by simpa using hfl) (by simp) (fun j c p h => r1 j c p (by simpa using h)) r2 (fun j c p h => r3 j c p (by simpa using h))) j c p hj hp).mono (fun _ h => h) (fun g hg => hw'.block g (hlt g hg))
  · rintro e w'' ⟨us, rs, S'', rfl, rfl, hL⟩
    refine ⟨?_, hw'.trans (hL.below.mono hw'.size)⟩
    have hl := hL.len
    match us, hl with
    | [u], _ =>
      have h0 : RelR S'' w'' w'.heap.size u (.val av) := hL.rel 0 u _ rfl rfl
      rw [valD_eq (m := fun _ => none) (.t _ _ h0) hv]
      rfl

def ShownQ [Tabs] (P : Program) (g : Option Bool) (rd : Operand → AV) (H : Heap) (nx : Nat) (o : Oper) (k : Res → Prop) : Prop :=
  ∃ v touch, (gOk g → OpSemQ P o (usesOf rd o) H v touch) ∧ k ⟨v, touch, [], nx⟩

theorem shownQ_pure [Tabs] {P : Program} {g : Option Bool} {rd : Operand → AV} {H : Heap} {nx : Nat} {o : Oper} {k : Res → Prop} {us : Uses} (hu : ∀ u ∈ us, u ∈ usesOf rd o)
    (h : ∃ r, (gOk g → OpSemP P o us H nx r) ∧ (r.wr = [] ∧ r.nx = nx) ∧ k r) : ShownQ P g rd H nx o k := by
  obtain ⟨r, h1, ⟨h2, h3⟩, h4⟩ := h
  refine ⟨r.v, r.touch, fun hg => (h1 hg).quiet hu, ?_⟩
  obtain ⟨v, t, wr, n⟩ := r
  simp only at h2 h3
  subst h2
  subst h3
  exact h4

theorem shownQ_pure' [Tabs] {P : Program} {g : Option Bool} {rd : Operand → AV} {H : Heap} {nx : Nat} {o : Oper} {k : Res → Prop} {us : Uses} (hu : ∀ u ∈ us, u ∈ usesOf rd o)
    (h : ∃ r, OpSemP P o us H nx r ∧ (r.wr = [] ∧ r.nx = nx) ∧ k r) : ShownQ P g rd H nx o k :=
  shownQ_pure hu (let ⟨r, h1, h2⟩ := h; ⟨r, fun _ => h1, h2⟩)

theorem evOpQ_sound [Tabs] {C : Cx} (hT : TabOk C.P C.T) {g : Option Bool} {rd : Operand → AV} {H : Heap} {nx : Nat} {o : Oper} {k : Res → Prop} (h : evOpQ C g rd H nx o k) : ShownQ C.P g rd H nx o k := by
  unfold evOpQ at h
  split at h
  · rename_i x ho
    exact shownQ_pure' (uses_all (l := [x]) (by rw [ho]; simp [Op.operands])) (evMove_sound (.inl ho) h)
  · rename_i x ho
    exact shownQ_pure' (uses_all (l := [x]) (by rw [ho]; simp [Op.operands])) (evMove_sound (.inr ho) h)
  · rename_i t parts ho
    refine shownQ_pure' (us := parts.toList.map fun p => (p.2, true, rd p.2)) (fun u hu => ?_) (evBuild_sound hT ho h)
    obtain ⟨p, hp, rfl⟩ := List.mem_map.1 hu
    exact List.mem_map.2 ⟨p.2, by rw [ho]; simp [Op.operands]; exact ⟨p.1, by simpa using hp⟩, rfl⟩
  · rename_i t x ho
    exact shownQ_pure (uses_all (l := [x]) (by rw [ho]; simp [Op.operands])) (evLoad_sound hT ho h)
  · rename_i x ho
    exact shownQ_pure' (uses_all (l := [x]) (by rw [ho]; simp [Op.operands])) (evNilCheck_sound ho h)
  · rename_i op t x y yt ho
    exact shownQ_pure (uses_all (l := [x, y]) (by rw [ho]; simp [Op.operands])) (evBin2_sound hT ho h)
  · rename_i t x y ok ho
    exact shownQ_pure' (uses_all (l := [x, y]) (by rw [ho]; simp [Op.operands])) (evLookup_sound hT ho h)
  · rename_i op t x ho
    exact shownQ_pure (uses_all (l := [x]) (by rw [ho]; simp [Op.operands])) (evUn_sound ho h)
  · rename_i s d x ho
    exact shownQ_pure (uses_all (l := [x]) (by rw [ho]; simp [Op.operands])) (evConvert_sound hT ho h)
  · rename_i fn first cap ho
    exact shownQ_pure' (uses_all (l := first.toList ++ cap.toList) (by rw [ho]; simp [Op.operands])) (evMakeFunc_sound ho h)
  · rename_i t x lo hi ho
    refine shownQ_pure (us := optUses rd x lo hi) ?_ (evSlice_sound hT ho h)
    have : optUses rd x lo hi = ((x :: (lo.toList ++ hi.toList)).map fun y => (y, true, rd y)) := rfl
    rw [this]
    exact uses_all (by rw [ho]; cases lo <;> cases hi <;> simp [Op.operands])
  · rename_i t x f ho
    exact shownQ_pure' (uses_all (l := [x]) (by rw [ho]; simp [Op.operands])) (evFieldAddr_sound hT ho h)
  · rename_i t x f ho
    exact shownQ_pure' (uses_all (l := [x]) (by rw [ho]; simp [Op.operands])) (evField_sound hT ho h)
  · rename_i t x i ho
    split at h
    · rename_i id hq
      exact shownQ_pure (uses_all (l := [x, i]) (by rw [ho]; simp [Op.operands])) (evIndexAddrQ_sound hT ho (queOf_own hq) h)
    · exact shownQ_pure (uses_all (l := [x, i]) (by rw [ho]; simp [Op.operands])) (evIndexAddr_sound hT ho h)
  · rename_i t x i ho
    exact shownQ_pure (uses_all (l := [x, i]) (by rw [ho]; simp [Op.operands])) (evIndex_sound hT ho h)
  · rename_i x n ho
    exact shownQ_pure' (uses_all (l := [x]) (by rw [ho]; simp [Op.operands])) (evExtract_sound ho h)
  · rename_i c ho
    obtain ⟨callee, args, ats⟩ := c
    cases callee with
    | invoke r m => exact h.elim
    | builtin b =>
      have hops : o.op.operands.toList = args.toList := by rw [ho]; simp [Op.operands, Call.operands]
      cases b with
      | len =>
        simp only at h
        split at h
        · rename_i x t hx ht
          have ha : args = #[x] := by apply Array.ext'; simpa using hx
          have hb : ats = #[t] := by apply Array.ext'; simpa using ht
          subst ha
          subst hb
          split at h
          · rename_i id hq
            exact shownQ_pure' (uses_all (l := [x]) (by rw [hops]; simp)) (evLenQ_sound hT ho (queOf_own hq) h)
          · exact shownQ_pure' (uses_all (l := [x]) (by rw [hops]; simp)) (evLen_sound hT ho h)
        · exact h.elim
      | min =>
        simp only at h
        split at h
        · rename_i x y hx
          have ha : args = #[x, y] := by apply Array.ext'; simpa using hx
          subst ha
          exact shownQ_pure' (uses_all (l := [x, y]) (by rw [hops]; simp)) (evMin_sound (isMax := false) ho h)
        · exact h.elim
      | max =>
        simp only at h
        split at h
        · rename_i x y hx
          have ha : args = #[x, y] := by apply Array.ext'; simpa using hx
          subst ha
          exact shownQ_pure' (uses_all (l := [x, y]) (by rw [hops]; simp)) (evMin_sound (isMax := true) ho h)
        · exact h.elim
      | _ => exact h.elim
    | value fop =>
      have hops : o.op.operands.toList = fop :: args.toList := by rw [ho]; simp [Op.operands, Call.operands]
      simp only at h
      split at h
      · rename_i f first cap hf
        rw [forceL_iff] at h
        obtain ⟨args', touch, av, v, hc, hb, ha, hk⟩ := h
        have hu : ∀ u ∈ ((fop :: args.toList).map fun y => (y, true, rd y) : Uses), u ∈ usesOf rd o := uses_all (by rw [hops]; simp)
        exact ⟨av, touch, fun hg m S w a H₂ hG ht hus => sem_callQ ho hf hb (hc hg) ha m S w a H₂ hG ht (fun u hm => hus u (hu u hm)), hk⟩
      · exact h.elim
  · exact h.elim

/-- The operations of a region that draws and only looks. -/
def evOpsQ [Tabs] (C : Cx) (H : Heap) (nx : Nat) (env : Env) (all : List Oper) : List Oper → Loc → List Lay → (Loc → Prop) → Prop
  | [], loc, _, k => k loc
  | o :: rest, loc, stk, k => enter all o.guard loc env stk fun stk' loc' =>
    match dstOk C.N o.dst stk' with
    | false => False
    | true => match o.op with
      | .pick c a b => evPick loc loc' env stk stk' c a b fun v => putK o.dst stk' v loc' fun loc2 => evOpsQ C H nx env all rest loc2 stk' k
      | _ => evOpQ C (topG stk') (rdOp loc' env) H nx o fun r => match r with
        | ⟨v, _, _, _⟩ => putK o.dst stk' v loc' fun loc2 => evOpsQ C H nx env all rest loc2 stk' k

theorem evOpsQ_sound [Tabs] {C : Cx} (hT : TabOk C.P C.T) {H : Heap} {nx : Nat} {env : Env} {all : List Oper} {m : Ids} {S : Blocks} {w : World} (hG : Good m S w H) {Q : Act → Prop} :
    ∀ (rest : List Oper) (loc : Loc) (stk : List Lay) (k : Loc → Prop), evOpsQ C H nx env all rest loc stk k →
    (∀ (a : Act) (loc : Loc) (stk : List Lay), k loc → RunI m S w C.N a.tmps loc env stk → a.defers = [] → Q a) →
    ∀ (a : Act), RunI m S w C.N a.tmps loc env stk → a.defers = [] → wpQuiet C.P all.toArray (RowKit.Below w.heap.size w) Q rest a
  | [], loc, stk, k, h, hQ, a, hr, hd => hQ a loc stk h hr hd
  | o :: rest, loc, stk, k, h, hQ, a, hr, hd => by
    obtain ⟨stk', loc', h, hr', hwant, _, _⟩ := enter_sound h hr
    simp only [wpQuiet]
    split at h
    · exact h.elim
    · rename_i hdst
      have hdp : ∀ (v : Value), (a.put o.dst v).defers = [] := by
        intro v
        cases hdo : o.dst <;> simp [Act.put, hd]
      by_cases hg : gOk (topG stk')
      · rw [if_pos (hwant.2 hg)]
        split at h
        · rename_i c x y ho
          obtain ⟨av, hk, hrun⟩ := evPick_sound (m := m) (S := S) (w := w) (N := C.N) (P := C.P) ho h
          obtain ⟨v, he, hv⟩ := hrun a hr hr' hg
          refine ⟨v, fun w' hw' => ?_, evOpsQ_sound hT hG rest _ stk' k (putK_iff.1 hk) hQ _ (hr'.put hdst (.inl ⟨hg, hv⟩)) (hdp v)⟩
          have he' : (execOp a.eval o).run C.P w' = .ok (.value v) w' := by
            unfold execOp at he ⊢
            simp only [ho] at he ⊢
            cases hc : a.eval c <;> simp [hc, asBool] at he ⊢
            exact he
          unfold Oper.quietAt
          rw [he']
          exact ⟨rfl, rfl⟩
        · obtain ⟨av, touch, h1, h2⟩ := evOpQ_sound hT h
          obtain ⟨u, hu, hq⟩ := h1 hg m S w a H hG (fun _ _ => rfl) (fun u hu _ => by
            obtain ⟨x, hx, rfl⟩ := List.mem_map.1 hu
            exact hr'.read hg x)
          exact ⟨u, fun w' hw' => hq w' hw', evOpsQ_sound hT hG rest _ stk' k (putK_iff.1 h2) hQ _ (hr'.put hdst (.inl ⟨hg, hu⟩)) (hdp u)⟩
      · rw [if_neg (fun hw => hg (hwant.1 hw))]
        split at h
        · rename_i c x y ho
          obtain ⟨av, hk, _⟩ := evPick_sound (m := m) (S := S) (w := w) (N := C.N) (P := C.P) ho h
          exact evOpsQ_sound hT hG rest _ stk' k (putK_iff.1 hk) hQ _ (hr'.put hdst (.inr ⟨hg, rfl⟩)) (hdp undef)
        · obtain ⟨av, touch, h1, h2⟩ := evOpQ_sound hT h
          exact evOpsQ_sound hT hG rest _ stk' k (putK_iff.1 h2) hQ _ (hr'.put hdst (.inr ⟨hg, rfl⟩)) (hdp undef)

theorem ext_below [Tabs] {m : Ids} {S : Blocks} {w w' : World} {H : Heap} {nx : Nat} (h : Good m S w H) (hb : RowKit.Below w.heap.size w w') : Ext m S w H nx nx m S w' H := by
  refine ⟨fun _ _ h => h, fun _ _ => rfl, fun _ h => h, fun _ h => .inl h, Far.of_below hb, fun _ h => .inl h, fun id => ?_, h.sep, fun g hg => ⟨Nat.lt_of_lt_of_le (h.ro g hg).1 hb.size, (h.ro g hg).2⟩, h.tab.mono (fun _ h => h) fun g hg => hb.block g (h.ro g hg).1⟩
  exact (h.rel id).mono (fun _ _ h => h) (fun _ h => h) (fun g hg => hb.block g (h.ro g hg).1) (fun v k hl hv hk => hb.block k (h.blk_lt hl hv hk))

end Go.Own
