/-
  append and the slicing of slices and strings, over abstract values.
-/
import Derived.Test.YtcabodhhdeecgaaOwnI
namespace Go.Own

def cat : Src → Src → (Src → Prop) → Prop
  | .lst [], s, k => k s
  | .lst (a :: l), .lst l2, k => k (.lst (a :: l ++ l2))
  | .lst (a :: l), .row enc d xs, k => ∃ ys, ys.map enc = a :: l ∧ k (.row enc d (ys ++ xs))
  | .row enc d xs, .lst [], k => k (.row enc d xs)
  | .row enc d xs, .lst [v], k => ∃ y, enc y = v ∧ k (.row enc d (xs ++ [y]))
  | .row enc d xs, .lst (a :: b :: l), k => ∃ ys, ys.map enc = a :: b :: l ∧ k (.row enc d (xs ++ ys))
  | .row enc d xs, .row enc2 _ xs2, k => ∃ ys, ys.map enc = xs2.map enc2 ∧ k (.row enc d (xs ++ ys))

theorem cat_sound {a b : Src} {k : Src → Prop} (h : cat a b k) : ∃ c, c.list = a.list ++ b.list ∧ k c := by
  unfold cat at h
  split at h
  · exact ⟨_, by simp [Src.list], h⟩
  · exact ⟨_, rfl, h⟩
  · obtain ⟨ys, hy, h⟩ := h
    exact ⟨_, by simp [Src.list, hy], h⟩
  · exact ⟨_, by simp [Src.list], h⟩
  · obtain ⟨y, hy, h⟩ := h
    exact ⟨_, by simp [Src.list, hy], h⟩
  · obtain ⟨ys, hy, h⟩ := h
    exact ⟨_, by simp [Src.list, hy], h⟩
  · obtain ⟨ys, hy, h⟩ := h
    exact ⟨_, by simp [Src.list, hy], h⟩

theorem append_run {P : Program} {t ty e : TypeId} {i : TypeInfo} {z : Value} (ht : P.underlying t = some (.slice e)) (hi : P.info? e = some i) (hz : i.zero = some z) (hzs : z.cells.size = i.size) (hpos : 0 < i.size)
    {S : Blocks} {w : World} {dl sl : List AV} {vd vx : Value} {vs : List Value} (hd : RowRel S w e i.size dl vd vs) (hx : SrcRel S w i.size vx sl) (hS : ∀ g, S g → g < w.heap.size ∧ blk vd ≠ some g)
    (hbytes : (dl.length + sl.length) * i.bytes ≤ 140737488355328) (h63 : dl.length + sl.length ≤ maxLen) :
    ∃ v' w' vs', (Builtin.append_ #[t, t] ty #[vd, vx]).run P w = .ok v' w' ∧ RowRel S w' e i.size (dl ++ sl) v' vs' ∧ w.grownBy w' (blk vd) ∧ (∀ k, blk v' = some k → blk vd = some k ∨ w.heap.size ≤ k) := by
  have hown := hd.owns
  have hlen : (flat dl).length = dl.length * i.size := flat_length dl hd.size
  have hvs : vs.length = (flat dl).length := by rw [hlen]; exact hown.1
  have hbo : Value.ownBlock vd = blk vd := by
    rcases hown.2 with ⟨rfl, _⟩ | ⟨g, cap, cur, rfl, _⟩ <;> rfl
  have fin : ∀ (v' : Value) (w' : World) (news : List Value), news.length = sl.length * i.size → (∀ x ∈ sl, x.cells.length = i.size) → (∀ a ∈ flat sl, a.one = true) → (∀ (j : Nat) (c : Value) (a : AV), news[j]? = some c → (flat sl)[j]? = some a → RelT S w c a) →
      w'.ownsRow 0 e i.size v' (dl.length + sl.length) (vs ++ news) → w.grownBy w' (blk vd) → RowRel S w' e i.size (dl ++ sl) v' (vs ++ news) := by
    intro v' w' news hnl hnE hn1 hnr ho hg
    have hkeep : ∀ g, S g → w'.heap[g]? = w.heap[g]? := fun g hgS => hg.block g (hS g hgS).1 (fun e => (hS g hgS).2 e.symm)
    refine ⟨by rw [List.length_append]; exact ho, fun x hx => ?_, fun a ha => ?_, fun j c a hj ha => ?_⟩
    · rcases List.mem_append.1 hx with hx | hx
      · exact hd.size x hx
      · exact hnE x hx
    · rw [flat_append] at ha
      rcases List.mem_append.1 ha with ha | ha
      · exact hd.ones a ha
      · exact hn1 a ha
    · rw [flat_append] at ha
      by_cases hq : j < vs.length
      · rw [List.getElem?_append_left hq] at hj
        rw [List.getElem?_append_left (by omega)] at ha
        exact (hd.rel j c a hj ha).mono (fun _ h => h) hkeep
      · rw [List.getElem?_append_right (by omega)] at hj ha
        rw [← hvs] at ha
        exact (hnr _ c a hj ha).mono (fun _ h => h) hkeep
  have hx' : (vx = .slice none 0 0 ∧ sl = []) ∨ ∃ (ad : Addr) (cap : Nat) (cs : List Value), vx = .slice (some ad) sl.length cap ∧ cs.length = sl.length * i.size ∧
      (∀ x ∈ sl, x.cells.length = i.size) ∧ (∀ a ∈ flat sl, a.one = true) ∧ (∀ (j : Nat) (u : Value), cs[j]? = some u → w.cell? (ad.add j) = some u) ∧ (∀ (j : Nat) (c : Value) (a : AV), cs[j]? = some c → (flat sl)[j]? = some a → RelT S w c a) := by
    rcases hx with h | ⟨a, cap, rfl, rfl⟩ | ⟨g, o, cap, cs, rfl, hcs, hE, h1, hc, hr⟩
    · exact .inl h
    · exact .inr ⟨a, cap, [], rfl, by simp, by simp, by simp [flat], by simp, by simp⟩
    · exact .inr ⟨⟨g, o, none⟩, cap, cs, rfl, hcs, hE, h1, fun j u hu => by rw [Addr.add_mid]; exact hc j u hu, hr⟩
  rcases hx' with ⟨rfl, rfl⟩ | ⟨ad, cap, cs, rfl, hcs, hE, h1, hnews, hr⟩
  · refine ⟨vd, w, vs, run_append_owned_none (P := P) (w := w) 0 t ty e i i.size ht hi vd dl.length vs hown, by rw [List.append_nil]; exact hd, ⟨rfl, rfl, rfl, Nat.le_refl _, fun _ _ _ => rfl⟩, fun k hk => .inl hk⟩
  · have hone : ∀ u ∈ cs, u.oneCell' = true := by
      intro u hu
      obtain ⟨j, hj⟩ := List.getElem?_of_mem hu
      have hjl : j < (flat sl).length := by rw [flat_length sl hE, ← hcs]; exact (List.getElem?_eq_some_iff.1 hj).1
      exact (hr j u _ hj (List.getElem?_eq_getElem hjl)).oneCell (h1 _ (List.getElem_mem hjl))
    obtain ⟨v', w', hrun, ho, hg, _⟩ := run_append_own (P := P) (w := w) 0 t ty e i z i.size i.bytes ht hi hz rfl rfl hzs hpos vd dl.length vs hown ad sl.length cap cs hcs hnews hone h63 hbytes (Nat.zero_le _)
    rw [hbo] at hg
    refine ⟨v', w', vs ++ cs, hrun, fin v' w' cs hcs hE h1 hr ho hg, hg, ?_⟩
    have hsmall : dl.length + sl.length ≤ 9223372036854775807 := by simp only [maxLen] at h63; omega
    intro k hk
    rcases hown.2 with ⟨hv0, hl0⟩ | ⟨g', cap', cur, hv0, _, hh, hnc, hcm, hcsz, htake⟩
    · by_cases hm : sl.length = 0
      · have h2 := ho.2
        have hz0 : dl.length + sl.length = 0 := by omega
        have hrn : (Builtin.append_ #[t, t] ty #[.slice none 0 0, .slice (some ad) sl.length cap]).run P w = .ok (.slice none 0 0) w := by
          have : cs = [] := List.eq_nil_of_length_eq_zero (by rw [hcs, hm]; simp)
          simp [Builtin.append_, run_underlying ht, sizeOf, typeInfo, hi, Builtin.lenOf, hm, Builtin.firstCells, loadCells, loadCellsFrom]
        rw [hv0, hrn] at hrun
        cases hrun
        simp [blk] at hk
      · have hrn := run_append_nil (P := P) w t ty e i z ht hi hz ad sl.length cap cs hcs hnews (by omega) (by omega) (by have hb := hbytes; rw [hl0] at hb; simp only [Nat.zero_add] at hb; omega)
        rw [hv0, hrn] at hrun
        cases hrun
        simp [blk] at hk
        exact .inr (by omega)
    · by_cases hroom : dl.length + sl.length ≤ cap'
      · have hfit : dl.length * i.size + cs.length ≤ cur.size := by rw [hcs, hcsz, ← Nat.add_mul]; exact Nat.mul_le_mul_right _ hroom
        have hrn := run_append_room (P := P) w t ty e i ht hi g' dl.length cap' cur hh ad sl.length cap cs hcs hnews hone hroom hfit
        rw [hv0, hrn] at hrun
        cases hrun
        rw [hv0]
        exact .inl hk
      · have holds : ∀ j u, vs[j]? = some u → w.cell? ((⟨g', 0, none⟩ : Addr).add j) = some u := hown.cells (g := g') (by rw [hv0]; rfl)
        have hrn := run_append_grow (P := P) w t ty e i z ht hi hz ⟨g', 0, none⟩ dl.length cap' vs hown.1 holds ad sl.length cap cs hcs hnews (by omega) (by omega) (growslice_fits (by omega) hbytes)
        rw [hv0, hrn] at hrun
        cases hrun
        simp [blk] at hk
        exact .inr (by omega)

def notIn (id : Nat) : List Nat → Bool
  | [] => true
  | j :: l => match Nat.beq id j with
    | true => false
    | false => notIn id l

theorem notIn_spec {id : Nat} : ∀ {l : List Nat}, notIn id l = true → ∀ j ∈ l, j ≠ id
  | [], _, j, h => by simp at h
  | a :: l, h, j, hj => by
    unfold notIn at h
    split at h
    · cases h
    · rename_i hb
      rcases List.mem_cons.1 hj with rfl | hj
      · intro e; subst e; simp at hb
      · exact notIn_spec h j hj

def cellsN (v : Value) : Nat := v.cells.size

/-- append -/
def evAppend (T : Tab) (H : Heap) (nx : Nat) (t : TypeId) (s x : AV) (k : Res → Prop) : Prop :=
  match lkT T t with
  | some ⟨.slice e, _, _, _⟩ => match lkT T e with
    | none => False
    | some ie => match Nat.ble 1 ie.size && Nat.ble 1 ie.bytes && Nat.beq (cellsN ie.zero) ie.size with
      | false => False
      | true => srcView H ie.size x fun sx touch => match s with
        | .nils => sx.len * ie.bytes ≤ 140737488355328 ∧ cat (.lst []) sx fun c => k ⟨.own nx, touch, [(nx, c.obj e ie.size)], nx + 1⟩
        | .own id => match notIn id touch with
          | false => False
          | true => match lkH H id with
            | .lst e' E' l => (e' = e ∧ E' = ie.size) ∧ (l.length + sx.len) * ie.bytes ≤ 140737488355328 ∧ cat (.lst l) sx fun c => k ⟨.own nx, id :: touch, [(nx, c.obj e ie.size), (id, .dead)], nx + 1⟩
            | .row e' E' enc d xs => (e' = e ∧ E' = ie.size) ∧ (xs.length + sx.len) * ie.bytes ≤ 140737488355328 ∧ cat (.row enc d xs) sx fun c => k ⟨.own nx, id :: touch, [(nx, c.obj e ie.size), (id, .dead)], nx + 1⟩
            | _ => False
        | .pre id n => match notIn id touch with
          | false => False
          | true => match lkH H id with
            | .lst e' E' l => (e' = e ∧ E' = ie.size) ∧ (l.length + sx.len) * ie.bytes ≤ 140737488355328 ∧ cat (.lst (l.take n)) sx fun c => k ⟨.own nx, id :: touch, [(nx, c.obj e ie.size), (id, .dead)], nx + 1⟩
            | .row e' E' enc d xs => (e' = e ∧ E' = ie.size) ∧ (xs.length + sx.len) * ie.bytes ≤ 140737488355328 ∧ cat (.row enc d (xs.take n)) sx fun c => k ⟨.own nx, id :: touch, [(nx, c.obj e ie.size), (id, .dead)], nx + 1⟩
            | _ => False
        | _ => False
  | _ => False

theorem src_obj_live (c : Src) (e E : Nat) : (c.obj e E).live = true := by cases c <;> rfl

theorem blk_slice_of {S : Blocks} {w : World} {e E : Nat} {l : List AV} {v : Value} {vs : List Value} (h : RowRel S w e E l v vs) : ∃ a n c, v = .slice a n c := by
  rcases h.owns.2 with ⟨rfl, _⟩ | ⟨g, cap, cur, rfl, _⟩ <;> exact ⟨_, _, _, rfl⟩

theorem evAppend_sound [Tabs] {P : Program} {T : Tab} (hT : TabOk P T) {rd : Operand → AV} {H : Heap} {nx : Nat} {t : TypeId} {s x : Operand} {o : Oper}
    (ho : o.op = .call { callee := .builtin .append, args := #[s, x], argTypes := #[t, t] }) {k : Res → Prop}
    (h : evAppend T H nx t (rd s) (rd x) k) : ∃ r, OpSem P o [(s, true, rd s), (x, true, rd x)] H nx r ∧ nx ≤ r.nx ∧ k r := by
  unfold evAppend at h
  split at h
  · rename_i e sz b z hi
    obtain ⟨hu, _⟩ := hT t _ hi
    simp only at hu
    split at h
    · exact h.elim
    · rename_i ie hie
      obtain ⟨_, j, hj, hs, hby, hz⟩ := hT e _ hie
      split at h
      · exact h.elim
      · rename_i hc
        simp only [Bool.and_eq_true] at hc
        obtain ⟨⟨c1, c2⟩, c3⟩ := hc
        have hpos : 1 ≤ ie.size := Nat.le_of_ble_eq_true c1
        have hbpos : 1 ≤ ie.bytes := Nat.le_of_ble_eq_true c2
        have hzs : ie.zero.cells.size = ie.size := Nat.eq_of_beq_eq_true c3
        obtain ⟨sx, touch, hsrc, h⟩ := srcView_sound h
        have run : ∀ {S : Blocks} {w : World} {a : Act} {dl : List AV} {vs : List Value} {n : Nat}, RowRel S w e ie.size dl (a.eval s) vs → SrcRel S w ie.size (a.eval x) sx.list → (∀ g, S g → g < w.heap.size ∧ blk (a.eval s) ≠ some g) →
            (n + sx.len) * ie.bytes ≤ 140737488355328 → dl.length ≤ n →
            ∃ v' w' vs', (execOp a.eval o).run P w = .ok (.value v') w' ∧ RowRel S w' e ie.size (dl ++ sx.list) v' vs' ∧ w.grownBy w' (blk (a.eval s)) ∧ (∀ k, blk v' = some k → blk (a.eval s) = some k ∨ w.heap.size ≤ k) := by
          intro S w a dl vs n hd hx hS hb hn
          have h1 : (dl.length + sx.list.length) * j.bytes ≤ 140737488355328 := by
            rw [hby, ← Src.len_eq]
            refine Nat.le_trans (Nat.mul_le_mul_right _ ?_) hb
            omega
          have h2 : dl.length + sx.list.length ≤ maxLen := maxLen_ge (by
            have : (dl.length + sx.list.length) * 1 ≤ (dl.length + sx.list.length) * j.bytes := Nat.mul_le_mul_left _ (by omega)
            omega)
          rw [← hs] at hd hx hpos hzs
          obtain ⟨v', w', vs', hr, hrow, hg, hbk⟩ := append_run (P := P) (ty := o.type) hu hj hz hzs hpos hd hx hS h1 h2
          refine ⟨v', w', vs', ?_, by rw [← hs]; exact hrow, hg, hbk⟩
          unfold execOp
          simp [ho, resolve, invoke, builtin, hr]
        have moved : ∀ (id n : Nat) (dst : Src) (c : Src), (∀ (m : Ids) (S : Blocks) (w : World) (H₂ : Heap) (v : Value), Good m S w H₂ → lkH H₂ id = lkH H id → RelV m S w v (rd s) → ∃ v0 vs, m id = some v0 ∧ (lkH H₂ id).live = true ∧ blk v0 = blk v ∧ RowRel S w e ie.size dst.list v vs) →
            (n + sx.len) * ie.bytes ≤ 140737488355328 → dst.list.length ≤ n → c.list = dst.list ++ sx.list →
            OpSem P o [(s, true, rd s), (x, true, rd x)] H nx ⟨.own nx, id :: touch, [(nx, c.obj e ie.size), (id, .dead)], nx + 1⟩ := by
          intro id n dst c hdst hb hn hcl m S w a H₂ K Q hG ht hfree hus hK
          have hs' : RelV m S w (a.eval s) (rd s) := hus (s, true, rd s) (by simp) rfl
          have hx' : RelV m S w (a.eval x) (rd x) := hus (x, true, rd x) (by simp) rfl
          obtain ⟨v0, vs, hm, hlive, hb0, hrow⟩ := hdst m S w H₂ _ hG (ht id (by simp)) hs'
          obtain ⟨v', w', vs', hrun, hrow', hg, hbk⟩ := run (n := n) hrow (hsrc m S w H₂ _ hG (fun i hi => ht i (by simp [hi])) hx') (fun g hg => ⟨(hG.ro g hg).1, fun e => (hG.ro g hg).2 id v0 hlive hm (by rw [hb0]; exact e)⟩) hb hn
          obtain ⟨a', n', c', rfl⟩ := blk_slice_of hrow'
          unfold Oper.wp
          rw [hrun]
          have hn0 : m nx = none := hfree nx (Nat.le_refl _) (Nat.lt_succ_self _)
          refine hK _ _ S w' (ext_move hG hlive hm hn0 (.slice a' n' c') _ w' hg.os hg.tape hg.output hg.size (fun k hk hne => hg.block k hk (fun e => hne (by rw [hb0]; exact e.symm))) (fun k hk => by rw [hb0]; exact hbk k hk) ?_) (.own nx n' c' a' (by simp))
          exact relB_obj.2 ⟨.slice a' n' c', vs', by simp, by rw [hcl]; exact hrow'⟩
        split at h
        · rename_i hp
          obtain ⟨hb, h⟩ := h
          obtain ⟨c, hcl, hk⟩ := cat_sound h
          refine ⟨_, ?_, Nat.le_succ _, hk⟩
          intro m S w a H₂ K Q hG ht hfree hus hK
          have hs' : RelV m S w (a.eval s) (rd s) := hus (s, true, rd s) (by simp) rfl
          have hx' : RelV m S w (a.eval x) (rd x) := hus (x, true, rd x) (by simp) rfl
          rw [hp] at hs'
          have hv : a.eval s = .slice none 0 0 := by
            generalize a.eval s = v at hs'
            cases hs' with
            | t _ _ h => cases h; rfl
          have hd : RowRel S w e ie.size [] (a.eval s) [] := ⟨by rw [hv]; exact World.ownsRow_nil w 0 e ie.size, by simp, by simp [flat], by simp⟩
          obtain ⟨v', w', vs', hrun, hrow', hg, hbk⟩ := run (n := 0) hd (hsrc m S w H₂ _ hG (fun i hi => ht i (by simp [hi])) hx') (fun g hg => ⟨(hG.ro g hg).1, by rw [hv]; simp [blk]⟩) (by simpa using hb) (by simp)
          obtain ⟨a', n', c', rfl⟩ := blk_slice_of hrow'
          unfold Oper.wp
          rw [hrun]
          have hn0 : m nx = none := hfree nx (Nat.le_refl _) (Nat.lt_succ_self _)
          rw [hv] at hg hbk
          refine hK _ _ S w' (ext_new hG hn0 (.slice a' n' c') _ w' hg.os hg.tape hg.output hg.size (fun k hk => hg.block k hk (by simp [blk])) (fun k hk => by
            rcases hbk k hk with h | h
            · simp [blk] at h
            · exact h) ?_) (.own nx n' c' a' (by simp))
          exact relB_obj.2 ⟨.slice a' n' c', vs', by simp, by rw [hcl]; exact hrow'⟩
        · rename_i id hp
          split at h
          · exact h.elim
          · have hdst : ∀ (dst : Src), lkH H id = dst.obj e ie.size → ∀ (m : Ids) (S : Blocks) (w : World) (H₂ : Heap) (v : Value), Good m S w H₂ → lkH H₂ id = lkH H id → RelV m S w v (rd s) → ∃ v0 vs, m id = some v0 ∧ (lkH H₂ id).live = true ∧ blk v0 = blk v ∧ RowRel S w e ie.size dst.list v vs := by
              intro dst hid m S w H₂ v hG ht hr
              obtain ⟨v', vs, hmi, hrow⟩ := own_row hG ht hid
              rw [hp] at hr
              cases hr with
              | t _ _ h => cases h
              | own id n cap a hm =>
                rw [hmi] at hm
                cases hm
                exact ⟨_, vs, hmi, by rw [ht, hid]; exact src_obj_live _ _ _, rfl, hrow⟩
            split at h
            · rename_i e' E' l hid
              obtain ⟨⟨rfl, rfl⟩, hb, h⟩ := h
              obtain ⟨c, hcl, hk⟩ := cat_sound h
              exact ⟨_, moved id _ (.lst l) c (hdst (.lst l) hid) hb (Nat.le_refl _) hcl, Nat.le_succ _, hk⟩
            · rename_i T' e' E' enc d xs hid
              obtain ⟨⟨rfl, rfl⟩, hb, h⟩ := h
              obtain ⟨c, hcl, hk⟩ := cat_sound h
              exact ⟨_, moved id _ (.row enc d xs) c (hdst (.row enc d xs) hid) hb (by simp [Src.list]) hcl, Nat.le_succ _, hk⟩
            · exact h.elim
        · rename_i id n hp
          split at h
          · exact h.elim
          · have hdst : ∀ (dst dst' : Src), lkH H id = dst.obj e ie.size → dst'.list = dst.list.take n → ∀ (m : Ids) (S : Blocks) (w : World) (H₂ : Heap) (v : Value), Good m S w H₂ → lkH H₂ id = lkH H id → RelV m S w v (rd s) → ∃ v0 vs, m id = some v0 ∧ (lkH H₂ id).live = true ∧ blk v0 = blk v ∧ RowRel S w e ie.size dst'.list v vs := by
              intro dst dst' hid hd' m S w H₂ v hG ht hr
              obtain ⟨v', vs, hmi, hrow⟩ := own_row hG ht hid
              rw [hp] at hr
              cases hr with
              | t _ _ h => cases h
              | pre id len n cap a hm hle =>
                rw [hmi] at hm
                cases hm
                exact ⟨_, _, hmi, by rw [ht, hid]; exact src_obj_live _ _ _, by cases a <;> rfl, by rw [hd']; exact hrow.take hle⟩
            split at h
            · rename_i e' E' l hid
              obtain ⟨⟨rfl, rfl⟩, hb, h⟩ := h
              obtain ⟨c, hcl, hk⟩ := cat_sound h
              exact ⟨_, moved id _ (.lst (l.take n)) c (hdst (.lst l) (.lst (l.take n)) hid rfl) hb (by simp [Src.list]; omega) hcl, Nat.le_succ _, hk⟩
            · rename_i T' e' E' enc d xs hid
              obtain ⟨⟨rfl, rfl⟩, hb, h⟩ := h
              obtain ⟨c, hcl, hk⟩ := cat_sound h
              exact ⟨_, moved id _ (.row enc d (xs.take n)) c (hdst (.row enc d xs) (.row enc d (xs.take n)) hid (by simp [Src.list, List.map_take])) hb (by simp [Src.list]; omega) hcl, Nat.le_succ _, hk⟩
            · exact h.elim
        · exact h.elim
  · exact h.elim

end Go.Own
