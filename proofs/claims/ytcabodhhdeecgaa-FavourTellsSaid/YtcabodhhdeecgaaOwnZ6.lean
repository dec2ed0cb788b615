/-
  Functions that write what they are handed: their contracts, out of their code; and calls of them.
-/
import Derived.Test.YtcabodhhdeecgaaOwnY
namespace Go.Own

def numH : List AB → Nat → Heap
  | [], _ => []
  | b :: bs, i => (i, b) :: numH bs (i + 1)

theorem lkH_numH : ∀ (bs : List AB) (i j : Nat), lkH (numH bs i) j = if i ≤ j then bs.getD (j - i) .dead else .dead
  | [], i, j => by simp [numH, lkH]
  | b :: bs, i, j => by
    rw [numH, lkH_cons, lkH_numH bs (i + 1) j]
    by_cases h1 : i = j
    · subst h1; simp
    · rw [if_neg h1]
      by_cases h2 : i ≤ j
      · rw [if_pos h2, if_pos (by omega)]
        obtain ⟨q, hq⟩ : ∃ q, j - i = q + 1 := ⟨j - i - 1, by omega⟩
        rw [hq, show j - (i + 1) = q by omega]
        simp
      · rw [if_neg h2, if_neg (by omega)]
theorem lkH_num0 (bs : List AB) (j : Nat) : lkH (numH bs 0) j = bs.getD j .dead := by
  rw [lkH_numH, if_pos (Nat.zero_le _), Nat.sub_zero]

def livesB : List AB → Bool
  | [] => true
  | b :: bs => match b.live && b.trees with
    | true => livesB bs
    | false => false
theorem livesB_spec : ∀ {bs : List AB}, livesB bs = true → ∀ b ∈ bs, b.live = true ∧ b.trees = true
  | [], _, b, h => by simp at h
  | a :: bs, h, b, hb => by
    unfold livesB at h
    split at h
    · rename_i ha
      rw [Bool.and_eq_true] at ha
      rcases List.mem_cons.1 hb with rfl | hb
      · exact ha
      · exact livesB_spec h b hb
    · cases h

/-- What a call leaves that writes the objects it was handed. -/
structure LeftIO [Tabs] (m : Ids) (S : Blocks) (w : World) (bs : List AB) (us : List Value) (rs : List AR) (bs' : List AB) (S' : Blocks) (w' : World) : Prop where
  len : us.length = rs.length
  blen : bs'.length = bs.length
  lives : livesB bs' = true
  rel : ∀ (j : Nat) (u : Value) (r : AR), us[j]? = some u → rs[j]? = some r → RelR S' w' w.heap.size u r
  far : Far (own m (numH bs 0)) w w'
  ros : ∀ g, S g → S' g
  fresh : ∀ g, S' g → S g ∨ w.heap.size ≤ g
  good : Good m S' w' (numH bs' 0)
  apart : ∀ (i : Nat) (u : Value) (b : AB) (k : Nat), us[i]? = some u → rs[i]? = some (.new b) → blk u = some k → ¬ S' k ∧ ∀ (j : Nat) (u' : Value) (b' : AB), us[j]? = some u' → rs[j]? = some (.new b') → blk u' = some k → i = j

/-- The contract of a function that writes objects 0, 1, .. that it is handed. -/
def AIO [Tabs] (P : Program) (f : FuncId) (args : List AV) (bs : List AB) (R : List AB → List AR → Prop) : Prop :=
  FnOk P f ∧ ∀ (m : Ids) (S : Blocks) (w : World) (vs : List Value), Good m S w (numH bs 0) → (∀ i, bs.length ≤ i → m i = none) → vs.length = args.length →
    (∀ (j : Nat) (v : Value) (a : AV), vs[j]? = some v → args[j]? = some a → RelV m S w v a) →
    Calls P f vs.toArray w fun e w' => ∃ us rs bs' S', e = .returned (retVal us) ∧ R bs' rs ∧ LeftIO m S w bs us rs bs' S' w'

theorem AIO.mono [Tabs] {P : Program} {f : FuncId} {args : List AV} {bs : List AB} {R R' : List AB → List AR → Prop} (h : AIO P f args bs R) (hr : ∀ b rs, R b rs → R' b rs) : AIO P f args bs R' :=
  ⟨h.1, fun m S w vs h1 h2 h3 h4 => (h.2 m S w vs h1 h2 h3 h4).mono fun _ _ ⟨us, rs, b, S', he, hR, hl⟩ => ⟨us, rs, b, S', he, hr _ _ hR, hl⟩⟩

/-- The objects at the end. -/
def ioK (H : Heap) : Nat → Nat → List AB → (List AB → Prop) → Prop
  | 0, _, acc, k => k acc.reverse
  | n + 1, i, acc, k => match (lkH H i).live && (lkH H i).trees with
    | true => ioK H n (i + 1) (lkH H i :: acc) k
    | false => False
def usedN : Nat → List Nat
  | 0 => []
  | n + 1 => n :: usedN n
theorem usedN_mem : ∀ {n i : Nat}, i ∈ usedN n ↔ i < n
  | 0, i => by simp [usedN]
  | n + 1, i => by rw [usedN, List.mem_cons, usedN_mem]; omega

theorem ioK_sound (H : Heap) : ∀ (n i : Nat) (acc : List AB) (k : List AB → Prop), ioK H n i acc k → ∃ bs, k (acc.reverse ++ bs) ∧ bs.length = n ∧ livesB bs = true ∧ ∀ j, j < n → bs.getD j .dead = lkH H (i + j)
  | 0, i, acc, k, h => ⟨[], by simpa [ioK] using h, rfl, rfl, fun j hj => by omega⟩
  | n + 1, i, acc, k, h => by
    unfold ioK at h
    split at h
    · rename_i hb
      obtain ⟨bs, h1, h2, h3, h4⟩ := ioK_sound H n (i + 1) _ k h
      refine ⟨lkH H i :: bs, by simpa using h1, by simp [h2], by unfold livesB; rw [hb]; exact h3, fun j hj => ?_⟩
      cases j with
      | zero => simp
      | succ j =>
        rw [List.getD_cons_succ, h4 j (by omega)]
        congr 1
        omega
    · exact h.elim

def retIO (T : Tab) (rs : Array ResultVar) (n : Nat) (R : List AB → List AR → Prop) : Exit → St → Prop
  | .normal, st => ioK st.heap n 0 [] fun bs => resK T rs.toList st [] (usedN n) fun rs => R bs rs
  | .ret, st => ioK st.heap n 0 [] fun bs => resK T rs.toList st [] (usedN n) fun rs => R bs rs
  | _, _ => False

theorem live_some {m : Ids} {S : Blocks} {w : World} {id : Nat} {b : AB} (h : RelB m S w id b) (hl : b.live = true) : ∃ v, m id = some v := by
  cases b with
  | dead => simp [AB.live] at hl
  | cells e l => obtain ⟨g, cs, hm, _⟩ := h; exact ⟨_, hm⟩
  | lst e E l => obtain ⟨v, vs, hm, _⟩ := h; exact ⟨_, hm⟩
  | row e E enc d xs => obtain ⟨v, vs, hm, _⟩ := h; exact ⟨_, hm⟩
  | smap ev dv es => obtain ⟨r, en, c, hm, _⟩ := h; exact ⟨_, hm⟩
  | imap k ev dv es => obtain ⟨r, en, c, hm, _⟩ := h; exact ⟨_, hm⟩
  | arr e k n f => obtain ⟨g, cs, hm, _⟩ := h; exact ⟨_, hm⟩
  | que e E enc d xs => obtain ⟨g, o, cap, cur, hm, _⟩ := h; exact ⟨_, hm⟩

theorem getD_ge {bs : List AB} {i : Nat} (h : bs.length ≤ i) : bs.getD i .dead = .dead := by
  rw [List.getD_eq_getElem?_getD, List.getElem?_eq_none h]
  rfl
theorem getD_lt_mem {bs : List AB} {i : Nat} (h : i < bs.length) : bs.getD i .dead ∈ bs := by
  rw [List.getD_eq_getElem?_getD, List.getElem?_eq_getElem h]
  exact List.getElem_mem h

/-- The contract, out of the code. -/
theorem aio_of [Tabs] {C : Cx} (hT : CxOk C) {f : FuncId} {fn : Func} {code : Code} {args : List AV} {bs : List AB} {R : List AB → List AR → Prop} (hf : C.P.funcs[f]? = some fn) (hb : fn.body = some code) (hname : (fn.name == "runtime.NumGoroutine") = false)
    (hN : C.N = fn.ntmps) (hle : args.length ≤ fn.ntmps) (hres : fn.results.size ≤ 4) (hlive : livesB bs = true) (hpn : C.pn = bs.length) (h : evCode C code ⟨argEnv args 0, numH bs 0, bs.length⟩ (retIO C.T fn.results bs.length R)) : AIO C.P f args bs R := by
  refine ⟨⟨fn, hf, by rw [hb]; rfl, hname⟩, fun m S w vs hG hfree hlen hrel => calls_of_wp hf hb ?_⟩
  let F : Fr := ⟨w, own m (numH bs 0), S, m⟩
  have hfits : F.fits C.pn := fun i v hi => by
    rw [hpn]
    cases Nat.lt_or_ge i bs.length with
    | inl h => exact h
    | inr h =>
      have : m i = some v := hi
      rw [hfree i h] at this
      cases this
  have hrel0 : Rel F C.N ⟨argEnv args 0, numH bs 0, bs.length⟩ { tmps := vs.toArray ++ Array.replicate (fn.ntmps - vs.toArray.size) undef, defers := [] } w := by
    refine ⟨m, S, ⟨hG, fun i hi => hfree i hi, Far.refl _ _, fun k hk => .inl hk, fun g hg => .inl hg, fun g hg => hg, fun i v hi => hi⟩, by simp; omega, rfl, fun s => ?_⟩
    rw [lk_argEnv, if_pos (Nat.zero_le _), Nat.sub_zero]
    by_cases hs : s < args.length
    · have h1 : args[s]? = some (args.getD s .undef) := by simp [List.getD, List.getElem?_eq_getElem hs]
      have h2 : vs[s]? = some ((vs.toArray ++ Array.replicate (fn.ntmps - vs.toArray.size) undef).getD s undef) := by
        have : s < vs.length := by omega
        simp [Array.getElem?_append, this]
      exact hrel s _ _ h2 h1
    · have : args.getD s .undef = .undef := by simp [List.getD, List.getElem?_eq_none (by omega : args.length ≤ s)]
      rw [this]
      exact .t _ _ (.undef _)
  refine wp_mono (evCode_sound hT (F := F) hfits code _ _ h _ w hrel0) fun e a' w' ⟨st', ⟨m', S', hc, hs, hd, hr⟩, hq⟩ => ?_
  have fin : (ioK st'.heap bs.length 0 [] fun bs' => resK C.T fn.results.toList st' [] (usedN bs.length) fun rs => R bs' rs) → a'.defers = [] ∧ ∃ v, (results fn a'.tmps).run C.P w' = .ok v w' ∧ ∃ us rs bs' S', Ending.returned v = .returned (retVal us) ∧ R bs' rs ∧ LeftIO m S w bs us rs bs' S' w' := by
    intro hq
    obtain ⟨bs', hq, hbl, hbv, hbe⟩ := ioK_sound _ _ _ _ _ hq
    rw [List.reverse_nil, List.nil_append] at hq
    obtain ⟨rs, ids, h1, h2, h3, h4, h5, h6, h7⟩ := resK_sound hT.tab hc.good hr _ _ _ _ hq
    have hlenv : (slotVals C.P fn.results.toList a' w').length = rs.length := by rw [h2]; simp [slotVals]
    -- the handed objects, now
    have hbi : ∀ i, i < bs.length → (bs'.getD i .dead).live = true ∧ (bs'.getD i .dead).trees = true ∧ lkH st'.heap i = bs'.getD i .dead := fun i hi => by
      have hm := getD_lt_mem (bs := bs') (i := i) (by omega)
      have := livesB_spec hbv _ hm
      refine ⟨this.1, this.2, ?_⟩
      have := hbe i hi
      rw [Nat.zero_add] at this
      exact this.symm
    have hmi : ∀ i, i < bs.length → ∃ v, m i = some v ∧ m' i = some v := fun i hi => by
      have hl := (livesB_spec hlive _ (getD_lt_mem (bs := bs) hi)).1
      have hrb := hG.rel i
      rw [lkH_num0] at hrb
      obtain ⟨v, hv⟩ := live_some hrb hl
      exact ⟨v, hv, hc.pins i v hv⟩
    have hS' : ∀ g, S' g → S g ∨ w.heap.size ≤ g := fun g hg => by
      rcases hc.ro g hg with h | h | h
      · exact .inl h
      · exfalso
        obtain ⟨i, v, hl, hv, hk⟩ := h
        have hi : i < bs.length := by
          cases Nat.lt_or_ge i bs.length with
          | inl h => exact h
          | inr h => rw [hfree i h] at hv; cases hv
        obtain ⟨v1, e1, e2⟩ := hmi i hi
        rw [e1] at hv
        cases hv
        obtain ⟨b1, _, b3⟩ := hbi i hi
        exact (hc.good.ro g hg).2 i v (by rw [b3]; exact b1) e2 hk
      · exact .inr h
    have hgood : Good m S' w' (numH bs' 0) := by
      have lv : ∀ i, (lkH (numH bs' 0) i).live = true → i < bs.length := fun i hl => by
        cases Nat.lt_or_ge i bs.length with
        | inl h => exact h
        | inr h => rw [lkH_num0, getD_ge (by omega)] at hl; cases hl
      have up : ∀ i v, (lkH (numH bs' 0) i).live = true → m i = some v → (lkH st'.heap i).live = true ∧ m' i = some v := fun i v hl hv => by
        have hi := lv i hl
        obtain ⟨v1, e1, e2⟩ := hmi i hi
        rw [e1] at hv
        cases hv
        rw [(hbi i hi).2.2]
        exact ⟨(hbi i hi).1, e2⟩
      refine ⟨fun i => ?_, fun i j vi vj k hli hlj hvi hvj hki hkj => ?_, fun g hg => ⟨(hc.good.ro g hg).1, fun i v hl hv => ?_⟩, hc.good.tab⟩
      · cases Nat.lt_or_ge i bs.length with
        | inl hi =>
          obtain ⟨v, e1, e2⟩ := hmi i hi
          obtain ⟨b1, b2, b3⟩ := hbi i hi
          have hrb := hc.good.rel i
          rw [b3] at hrb
          rw [lkH_num0]
          exact relB_move hrb e2 e1 b2
        | inr hi => rw [lkH_num0, getD_ge (by omega)]; trivial
      · obtain ⟨l1, e1⟩ := up i vi hli hvi
        obtain ⟨l2, e2⟩ := up j vj hlj hvj
        exact hc.good.sep i j vi vj k l1 l2 e1 e2 hki hkj
      · obtain ⟨l1, e1⟩ := up i v hl hv
        exact (hc.good.ro g hg).2 i v l1 e1
    refine ⟨hd, _, run_results h7 hres, slotVals C.P fn.results.toList a' w', rs, bs', S', rfl, by simpa using h1, ⟨hlenv, hbl, hbv, fun j u r hu hr' => ?_, hc.far, hc.ro0, hS', hgood, fun i u b k hu hb hk => ?_⟩⟩
    · obtain ⟨o, ho⟩ : ∃ o, ids[j]? = some o := ⟨_, List.getElem?_eq_getElem (by
        have := (List.getElem?_eq_some_iff.1 hr').1
        omega)⟩
      cases h4 j u r o hu hr' ho with
      | val a h => exact h
      | obj id b hm hl hlive' hb =>
        refine ⟨hlive', fun k hk => ?_, relB_single (by rw [← hl]; exact hc.good.rel id) hm hb⟩
        rcases hc.owns k ⟨id, u, by rw [hl]; exact hlive', hm, hk⟩ with h | h
        · exfalso
          obtain ⟨i, v, hl2, hv2, hk2⟩ := h
          have hi : i < bs.length := by
            cases Nat.lt_or_ge i bs.length with
            | inl h => exact h
            | inr h => rw [hfree i h] at hv2; cases hv2
          obtain ⟨v1, e1, e2⟩ := hmi i hi
          rw [e1] at hv2
          cases hv2
          obtain ⟨b1, _, b3⟩ := hbi i hi
          have := hc.good.sep i id v u k (by rw [b3]; exact b1) (by rw [hl]; exact hlive') e2 hm hk2 hk
          subst this
          exact h6 i (List.mem_of_getElem? ho) (usedN_mem.2 hi)
        · exact h
    · obtain ⟨o, ho⟩ : ∃ o, ids[i]? = some o := ⟨_, List.getElem?_eq_getElem (by
        have := (List.getElem?_eq_some_iff.1 hb).1
        omega)⟩
      cases h4 i u (.new b) o hu hb ho with
      | obj id _ hm hl hlive' hbc =>
        refine ⟨fun hSk => (hc.good.ro k hSk).2 id u (by rw [hl]; exact hlive') hm hk, fun j u' b' hu' hb' hk' => ?_⟩
        obtain ⟨o', ho'⟩ : ∃ o, ids[j]? = some o := ⟨_, List.getElem?_eq_getElem (by
          have := (List.getElem?_eq_some_iff.1 hb').1
          omega)⟩
        cases h4 j u' (.new b') o' hu' hb' ho' with
        | obj id' _ hm' hl' hlive2 hbc' =>
          have := hc.good.sep id id' u u' k (by rw [hl]; exact hlive') (by rw [hl']; exact hlive2) hm hm' hk hk'
          subst this
          exact h5 i j id ho ho'
  cases e with
  | normal => exact fin hq
  | ret => exact fin hq
  | _ => exact hq.elim

end Go.Own
