/-
  A call of a function that writes what it is handed.
-/
import Derived.Test.YtcabodhhdeecgaaOwnZ6
namespace Go.Own

/-- What the callee gets for what the caller has: an object that it may write, or something lent. -/
inductive BorIO (H : Heap) (ids : List Nat) : AV → AV → List Nat → Prop
  | lend (a a' : AV) (t : List Nat) (h : Lend H a a' t) : BorIO H ids a a' t
  | map (i id : Nat) (h : ids[i]? = some id) : BorIO H ids (.map id) (.map i) []
  | ptr (i id off : Nat) (h : ids[i]? = some id) : BorIO H ids (.ptr id off) (.ptr i off) []
  | own (i id : Nat) (h : ids[i]? = some id) : BorIO H ids (.own id) (.own i) []

def zipH : List Nat → List AB → List (Nat × AB)
  | i :: is, b :: bs => (i, b) :: zipH is bs
  | _, _ => []

def nodupB : List Nat → Bool
  | [] => true
  | i :: is => match notIn i is with
    | true => nodupB is
    | false => false
theorem nodupB_spec : ∀ {l : List Nat}, nodupB l = true → l.Nodup
  | [], _ => List.nodup_nil
  | i :: is, h => by
    unfold nodupB at h
    split at h
    · rename_i hi
      exact List.nodup_cons.2 ⟨fun hm => notIn_spec hi _ hm rfl, nodupB_spec h⟩
    · cases h

theorem lkH_zip : ∀ {ids : List Nat} {bs : List AB} {H : Heap} {j : Nat}, ids.length = bs.length → j ∉ ids → lkH (zipH ids bs ++ H) j = lkH H j
  | [], [], H, j, _, _ => rfl
  | [], _ :: _, H, j, h, _ => by simp at h
  | _ :: _, [], H, j, h, _ => by simp at h
  | i :: is, b :: bs, H, j, h, hn => by
    have hij : ¬ i = j := fun e => hn (by rw [e]; exact List.mem_cons_self)
    show lkH ((i, b) :: (zipH is bs ++ H)) j = _
    rw [lkH_cons, if_neg hij]
    exact lkH_zip (by simpa using h) (fun hm => hn (List.mem_cons_of_mem _ hm))
theorem lkH_zip_at : ∀ {ids : List Nat} {bs : List AB} {H : Heap} {k id : Nat}, ids.length = bs.length → ids.Nodup → ids[k]? = some id → lkH (zipH ids bs ++ H) id = bs.getD k .dead
  | [], _, H, k, id, _, _, h => by simp at h
  | _ :: _, [], H, k, id, h, _, _ => by simp at h
  | i :: is, b :: bs, H, k, id, h, hn, hk => by
    rw [List.nodup_cons] at hn
    show lkH ((i, b) :: (zipH is bs ++ H)) id = _
    rw [lkH_cons]
    cases k with
    | zero =>
      simp at hk
      subst hk
      rw [if_pos rfl]
      simp
    | succ k =>
      have hk' : is[k]? = some id := by simpa using hk
      rw [if_neg (fun e => hn.1 (by rw [e]; exact List.mem_of_getElem? hk')), List.getD_cons_succ]
      exact lkH_zip_at (by simpa using h) hn.2 hk'

def sameObjs (H : Heap) : List Nat → List AB → Prop
  | i :: is, b :: bs => lkH H i = b ∧ sameObjs H is bs
  | [], [] => True
  | _, _ => False
theorem sameObjs_len {H : Heap} : ∀ {ids : List Nat} {bs : List AB}, sameObjs H ids bs → ids.length = bs.length
  | [], [], _ => rfl
  | [], _ :: _, h => h.elim
  | _ :: _, [], h => h.elim
  | _ :: _, _ :: _, h => by simp [sameObjs_len h.2]
theorem sameObjs_get {H : Heap} : ∀ {ids : List Nat} {bs : List AB}, sameObjs H ids bs → ∀ (k id : Nat), ids[k]? = some id → lkH H id = bs.getD k .dead
  | [], [], _, k, id, h => by simp at h
  | [], _ :: _, h, _, _, _ => h.elim
  | _ :: _, [], h, _, _, _ => h.elim
  | i :: is, b :: bs, h, k, id, hk => by
    cases k with
    | zero =>
      simp at hk
      subst hk
      simpa using h.1
    | succ k =>
      rw [List.getD_cons_succ]
      exact sameObjs_get h.2 k id (by simpa using hk)

theorem borIO_sound [Tabs] {H : Heap} {ids : List Nat} {l l' : List AV} {touch : List Nat} (h : BorL (BorIO H ids) l l' touch) : l'.length = l.length ∧
    ∀ (m mc : Ids) (S : Blocks) (w : World) (H₂ : Heap) (S₂ : Blocks), Good m S w H₂ → (∀ id ∈ touch, lkH H₂ id = lkH H id) → (∀ (k id : Nat), ids[k]? = some id → mc k = m id) → (∀ g, S g → S₂ g) → (∀ g, lent m H₂ touch g → S₂ g) →
    ∀ (cs : List Value), cs.length = l.length → (∀ (j : Nat) (c : Value) (a : AV), cs[j]? = some c → l[j]? = some a → RelV m S w c a) → ∀ (j : Nat) (c : Value) (a : AV), cs[j]? = some c → l'[j]? = some a → RelV mc S₂ w c a := by
  induction h with
  | nil => exact ⟨rfl, fun m mc S w H₂ S₂ _ _ _ _ _ cs hlen _ j c a hj ha => by simp at ha⟩
  | cons h hl ih =>
    rename_i a a' l l' t t'
    refine ⟨by simp [ih.1], fun m mc S w H₂ S₂ hG ht hmc hS hle cs hlen hr j c x hj hx => ?_⟩
    cases cs with
    | nil => simp at hj
    | cons c0 cs =>
      cases j with
      | zero =>
        simp at hj hx
        subst hj
        subst hx
        have h0 : RelV m S w c0 a := hr 0 _ _ rfl rfl
        cases h with
        | lend _ _ _ h => exact .t _ _ (lend_ok H a _ t h m S w H₂ S₂ _ hG (fun id hid => ht id (by simp [hid])) hS (fun g ⟨id, v, h1, h2⟩ => hle g ⟨id, v, by simp [h1], h2⟩) h0)
        | map i id h => cases h0 with
          | t _ _ h => cases h
          | map _ r hm => exact .map i r (by rw [hmc i id h]; exact hm)
        | ptr i id off h => cases h0 with
          | t _ _ h => cases h
          | ptr _ _ g hm => exact .ptr i off g (by rw [hmc i id h]; exact hm)
        | own i id h => cases h0 with
          | t _ _ h => cases h
          | own _ n cap ad hm => exact .own i n cap ad (by rw [hmc i id h]; exact hm)
      | succ j =>
        simp at hj hx
        exact ih.2 m mc S w H₂ S₂ hG (fun id hid => ht id (by simp [hid])) hmc hS (fun g ⟨id, v, h1, h2⟩ => hle g ⟨id, v, by simp [h1], h2⟩) cs (by simpa using hlen)
          (fun j c a h1 h2 => hr (j + 1) c a (by simpa using h1) (by simpa using h2)) j c x hj hx

def disjB (t ids : List Nat) : Bool := t.all fun i => notIn i ids

theorem callio_sem [Tabs] {P : Program} {f : FuncId} {avs args : List AV} {H : Heap} {nx : Nat} {bs : List AB} {R : List AB → List AR → Prop} (hc : AIO P f args bs R) (ids t : List Nat) (hnd : nodupB ids = true) (hlive : livesB bs = true) (hso : sameObjs H ids bs)
    (hb : BorL (BorIO H ids) avs args t) (hdis : disjB t ids = true) (hflat : t = [] ∨ ∀ b rs, R b rs → (∀ r ∈ rs, r.flat) ∧ ∀ x ∈ b, AR.flat (.new x)) :
    CallSem P f avs H nx (ids ++ t) (fun r => ∃ b rs, R b rs ∧ r = ⟨valR (tv rs nx), ids ++ t, tw rs nx ++ zipH ids b, tn rs nx⟩) := by
  obtain ⟨hfn, hcall⟩ := hc
  refine ⟨hfn, fun m S w H₂ vs hG ht hfree hlen hrel => ?_⟩
  have hnd' := nodupB_spec hnd
  have hil := sameObjs_len hso
  have hdis' : ∀ i ∈ t, i ∉ ids := fun i hi hm => by
    have := List.all_eq_true.1 hdis i hi
    exact notIn_spec this _ hm rfl
  have hobj : ∀ (k id : Nat), ids[k]? = some id → lkH H₂ id = bs.getD k .dead := fun k id hk => by
    rw [ht id (List.mem_append.2 (.inl (List.mem_of_getElem? hk)))]
    exact sameObjs_get hso k id hk
  have hlv : ∀ (k id : Nat), ids[k]? = some id → (bs.getD k .dead).live = true ∧ (bs.getD k .dead).trees = true := fun k id hk => by
    have : k < ids.length := (List.getElem?_eq_some_iff.1 hk).1
    exact livesB_spec hlive _ (getD_lt_mem (by omega))
  let mc : Ids := fun k => match ids[k]? with
    | some id => m id
    | none => none
  have hmc : ∀ (k id : Nat), ids[k]? = some id → mc k = m id := fun k id hk => by
    show (match ids[k]? with | some id => m id | none => none) = _
    rw [hk]
  have hmn : ∀ k, bs.length ≤ k → mc k = none := fun k hk => by
    show (match ids[k]? with | some id => m id | none => none) = _
    rw [List.getElem?_eq_none (by omega)]
  have hSlt : ∀ g, (S g ∨ lent m H₂ t g) → g < w.heap.size := by
    rintro g (h | ⟨i, v, hi, hl, hm, hk⟩)
    · exact (hG.ro g h).1
    · exact hG.blk_lt hl hm hk
  have hid : ∀ k, k < bs.length → ∃ id, ids[k]? = some id := fun k hk => ⟨_, List.getElem?_eq_getElem (show k < ids.length by omega)⟩
  have lvn : ∀ {bb : List AB} (k : Nat), bb.length = bs.length → (lkH (numH bb 0) k).live = true → k < bs.length := fun {bb} k hbl hl => by
    cases Nat.lt_or_ge k bs.length with
    | inl h => exact h
    | inr h => rw [lkH_num0, getD_ge (by omega)] at hl; cases hl
  have hGc : Good mc (fun g => S g ∨ lent m H₂ t g) w (numH bs 0) := by
    have up : ∀ k v, (lkH (numH bs 0) k).live = true → mc k = some v → ∃ id, ids[k]? = some id ∧ (lkH H₂ id).live = true ∧ m id = some v := fun k v hl hv => by
      obtain ⟨id, hk⟩ := hid k (lvn k rfl hl)
      exact ⟨id, hk, by rw [hobj k id hk]; exact (hlv k id hk).1, by rw [← hmc k id hk]; exact hv⟩
    refine ⟨fun k => ?_, fun i j vi vj q hli hlj hvi hvj hki hkj => ?_, fun g hg => ⟨hSlt g hg, fun k v hl hv hk => ?_⟩, hG.tab.mono (fun _ h => .inl h) fun _ _ => rfl⟩
    · rw [lkH_num0]
      cases Nat.lt_or_ge k bs.length with
      | inr h => rw [getD_ge h]; trivial
      | inl h =>
        obtain ⟨id, hk⟩ := hid k h
        have hrb := hG.rel id
        rw [hobj k id hk] at hrb
        obtain ⟨v, hv⟩ := live_some hrb (hlv k id hk).1
        exact (relB_move hrb hv (by rw [hmc k id hk]; exact hv) (hlv k id hk).2).mono (fun _ _ h => h) (fun _ h => .inl h) (fun _ _ => rfl) (fun _ _ _ _ _ => rfl)
    · obtain ⟨id1, a1, b1, c1⟩ := up i vi hli hvi
      obtain ⟨id2, a2, b2, c2⟩ := up j vj hlj hvj
      have := hG.sep id1 id2 vi vj q b1 b2 c1 c2 hki hkj
      subst this
      exact (List.getElem?_inj (List.getElem?_eq_some_iff.1 a1).1 hnd').1 (by rw [a1, a2])
    · obtain ⟨id1, a1, b1, c1⟩ := up k v hl hv
      rcases hg with h | ⟨i, u, hi, hl2, hm2, hk2⟩
      · exact (hG.ro g h).2 id1 v b1 c1 hk
      · have := hG.sep i id1 u v g hl2 b1 hm2 c1 hk2 hk
        subst this
        exact hdis' i hi (List.mem_of_getElem? a1)
  obtain ⟨hal, hbor⟩ := borIO_sound hb
  refine (hcall mc (fun g => S g ∨ lent m H₂ t g) w vs hGc hmn (by omega) (hbor m mc S w H₂ _ hG (fun id h => ht id (List.mem_append.2 (.inr h))) hmc (fun g h => .inl h) (fun g h => .inr h) vs hlen hrel)).mono ?_
  rintro e w' ⟨us, rs, bs', S'', rfl, hR, hL⟩
  have hbl := hL.blen
  have hnl : ∀ g, S g → ¬ lent m H₂ t g := fun g hg ⟨i, v, hi, hl, hm, hk⟩ => (hG.ro g hg).2 i v hl hm hk
  have hownc : ∀ k, own mc (numH bs 0) k → ∃ id, id ∈ ids ∧ (lkH H₂ id).live = true ∧ ∃ v, m id = some v ∧ blk v = some k := by
    rintro k ⟨i, v, hl, hv, hk⟩
    obtain ⟨id, hi⟩ := hid i (lvn i rfl hl)
    exact ⟨id, List.mem_of_getElem? hi, by rw [hobj i id hi]; exact (hlv i id hi).1, v, by rw [← hmc i id hi]; exact hv, hk⟩
  have hkeepS : ∀ g, g < w.heap.size → (∀ id v, id ∈ ids → (lkH H₂ id).live = true → m id = some v → blk v ≠ some g) → w'.heap[g]? = w.heap[g]? := fun g hg hno => hL.far.block g hg fun ho => by
    obtain ⟨id, h1, h2, v, h3, h4⟩ := hownc g ho
    exact hno id v h1 h2 h3 h4
  have hSf : ∀ g, S'' g → S g ∨ lent m H₂ t g ∨ w.heap.size ≤ g := fun g hg => by
    rcases hL.fresh g hg with (h | h) | h
    · exact .inl h
    · exact .inr (.inl h)
    · exact .inr (.inr h)
  have hlv' : ∀ (k id : Nat), ids[k]? = some id → (bs'.getD k .dead).live = true ∧ (bs'.getD k .dead).trees = true := fun k id hk => by
    have : k < ids.length := (List.getElem?_eq_some_iff.1 hk).1
    exact livesB_spec hL.lives _ (getD_lt_mem (by omega))
  have hrelR : ∀ (j : Nat) (u : Value) (r : AR), us[j]? = some u → rs[j]? = some r → RelR (fun g => S'' g ∧ ¬ lent m H₂ t g) w' w.heap.size u r := by
    intro j u r hu hr
    rcases hflat with h0 | h0
    · exact relR_more (fun g hg => ⟨hg, fun ⟨i, v, hi, _⟩ => by rw [h0] at hi; simp at hi⟩) (hL.rel j u r hu hr)
    · exact relR_flat (hL.rel j u r hu hr) ((h0 _ rs hR).1 r (List.mem_of_getElem? hr))
  have hl3 : ∀ id, (lkH (zipH ids bs' ++ H₂) id).live = true → (lkH H₂ id).live = true := fun id hl => by
    by_cases hm : id ∈ ids
    · obtain ⟨k, hk⟩ := List.getElem?_of_mem hm
      rw [hobj k id hk]
      exact (hlv k id hk).1
    · rwa [lkH_zip (by omega) hm] at hl
  have hG3 : Good m (fun g => S'' g ∧ ¬ lent m H₂ t g) w' (zipH ids bs' ++ H₂) := by
    refine ⟨fun id => ?_, fun i j vi vj q hli hlj => hG.sep i j vi vj q (hl3 i hli) (hl3 j hlj), fun g hg => ⟨(hL.good.ro g hg.1).1, fun id v hl hv hk => ?_⟩, fun g cs hg => ⟨⟨(hL.good.tab g cs hg).1, fun ⟨i, v, hi, hl, hm, hk⟩ => (hG.ro g (hG.tab g cs hg).1).2 i v hl hm hk⟩, (hL.good.tab g cs hg).2⟩⟩
    · by_cases hm : id ∈ ids
      · obtain ⟨k, hk⟩ := List.getElem?_of_mem hm
        rw [lkH_zip_at (by omega) hnd' hk]
        have hrb := hL.good.rel k
        rw [lkH_num0] at hrb
        obtain ⟨v, hv⟩ := live_some hrb (hlv' k id hk).1
        have hmv : m id = some v := by rw [← hmc k id hk]; exact hv
        have hmove := relB_move hrb hv hmv (hlv' k id hk).2
        rcases hflat with h0 | h0
        · exact hmove.mono (fun _ _ h => h) (fun g hg => ⟨hg, fun ⟨i, v, hi, _⟩ => by rw [h0] at hi; simp at hi⟩) (fun _ _ => rfl) (fun _ _ _ _ _ => rfl)
        · have hfl := (h0 _ rs hR).2 _ (getD_lt_mem (bs := bs') (i := k) (by have := (List.getElem?_eq_some_iff.1 hk).1; omega))
          have hone : RelR S'' w' 0 v (.new (bs'.getD k .dead)) := ⟨(hlv' k id hk).1, fun _ _ => Nat.zero_le _, fun n => relB_move hrb hv (by simp) (hlv' k id hk).2⟩
          have := (relR_flat (S' := fun g => S'' g ∧ ¬ lent m H₂ t g) hone hfl).2.2 id
          exact this.mono (fun i u h => by
            by_cases e : i = id
            · subst e
              simp at h
              subst h
              exact hmv
            · simp [e] at h) (fun _ h => h) (fun _ _ => rfl) (fun _ _ _ _ _ => rfl)
      · rw [lkH_zip (by omega) hm]
        refine (hG.rel id).mono (fun _ _ h => h) (fun g hg => ⟨hL.ros g (.inl hg), hnl g hg⟩) (fun g hg => hkeepS g (hG.ro g hg).1 fun i v _ hl hv => (hG.ro g hg).2 i v hl hv) (fun v k hl hv hk => hkeepS k (hG.blk_lt hl hv hk) fun i u hi hl2 hu hk2 => ?_)
        have := hG.sep i id u v k hl2 hl hu hv hk2 hk
        subst this
        exact hm hi
    · rcases hSf g hg.1 with h | h | h
      · exact (hG.ro g h).2 id v (hl3 id hl) hv hk
      · exact hg.2 h
      · have := hG.blk_lt (hl3 id hl) hv hk
        omega
  have hown3 : ∀ k, own m (zipH ids bs' ++ H₂) k → own m H₂ k := fun k ⟨i, v, hl, hv, hk⟩ => ⟨i, v, hl3 i hl, hv, hk⟩
  obtain ⟨m', g1, g2, g3, g4, g5, g6⟩ := take_sound (B := w.heap.size) rs us nx m _ hG3 (fun i hi hlt => hfree i hi ⟨_, ⟨bs', rs, hR, rfl⟩, hlt⟩) hL.len hrelR (fun j u b k hu hr hk => by
    obtain ⟨a1, a2⟩ := hL.apart j u b k hu hr hk
    refine ⟨fun h => a1 h.1, fun ho => ?_, fun j' u' b' p q r => a2 j' u' b' p q r⟩
    have h1 := hG.own_lt (hown3 k ho)
    have h2 : RelR _ w' w.heap.size u (.new b) := hrelR j u _ hu hr
    have := h2.2.1 k hk
    omega)
  refine ⟨retVal us, _, m', _, rfl, ⟨bs', rs, hR, rfl⟩, ⟨g2, g3, fun g hg => ⟨hL.ros g (.inl hg), hnl g hg⟩, fun g hg => ?_, ?_, fun k hk => ?_, ?_⟩, retVal_rel g5 g6⟩
  · rcases hSf g hg.1 with h | h | h
    · exact .inl h
    · exact (hg.2 h).elim
    · exact .inr (.inr h)
  · exact ⟨hL.far.os, hL.far.tape, hL.far.output, hL.far.size, fun k hk hno => hkeepS k hk fun id v _ hl hv hkv => hno ⟨id, v, hl, hv, hkv⟩⟩
  · rw [List.append_assoc] at hk
    rcases g4 k hk with h | h
    · exact .inl (hown3 k h)
    · exact .inr h
  · rw [List.append_assoc]
    exact g1

end Go.Own
