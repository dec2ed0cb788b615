/-
  Slicing; bytes of strings; numbers; closures; new slices, over abstract values.
-/
import Derived.Test.YtcabodhhdeecgaaOwnJ
namespace Go.Own

def bndI : Option AV → Int → (Int → Prop) → Prop
  | none, d, k => k d
  | some (.int _ n), _, k => k n
  | some _, _, _ => False

def cut {α : Type _} (lo hi : Option AV) (s : List α) (l h : Int) : List α :=
  match lo, hi with
  | none, none => s
  | none, some _ => s.take h.toNat
  | some _, none => s.drop l.toNat
  | some _, some _ => (s.take h.toNat).drop l.toNat

theorem bndI_sound {x : Option AV} {d : Int} {k : Int → Prop} (h : bndI x d k) : ∃ n, k n ∧ (x = none → n = d) ∧ ∀ a, x = some a → ∃ kk, a = .int kk n := by
  unfold bndI at h
  split at h
  · exact ⟨_, h, fun _ => rfl, fun a ha => by cases ha⟩
  · exact ⟨_, h, fun h => by (cases h), fun a ha => by cases ha; exact ⟨_, rfl⟩⟩
  · exact h.elim

theorem run_sliceBounds {P : Program} {w : World} (isSlice : Bool) (len cap : Nat) (lo hi : Option Value) (l h : Int) (hlo : (lo = none ∧ l = 0) ∨ ∃ k, lo = some (.int k l)) (hhi : (hi = none ∧ h = len) ∨ ∃ k, hi = some (.int k h))
    (h0 : 0 ≤ l) (h1 : l ≤ h) (h2 : h ≤ len) (h3 : len ≤ cap) : (Instr.sliceBounds isSlice len cap lo hi none).run P w = .ok (l.toNat, h.toNat, cap) w := by
  have hc : (h.toNat : Int) = h := by omega
  rcases hlo with ⟨rfl, rfl⟩ | ⟨k1, rfl⟩ <;> rcases hhi with ⟨rfl, rfl⟩ | ⟨k2, rfl⟩
  · simp [Instr.sliceBounds]
  · simp [Instr.sliceBounds, Instr.sliceBound, asIntOf, show 0 ≤ h by omega, show h ≤ (cap : Int) by omega]
  · simp [Instr.sliceBounds, Instr.sliceBound, asIntOf, h0, h1]
  · simp [Instr.sliceBounds, Instr.sliceBound, asIntOf, h0, h1, hc, show 0 ≤ h by omega, show h ≤ (cap : Int) by omega]

theorem cut_eq {α : Type _} {lo hi : Option AV} {s : List α} {l h : Int} (hl : lo = none → l = 0) (hh : hi = none → h = s.length) : cut lo hi s l h = (s.take h.toNat).drop l.toNat := by
  unfold cut
  split
  · rw [hl rfl, hh rfl]; simp
  · rw [hl rfl]; simp
  · rw [hh rfl]; simp
  · rfl

def evSlice (T : Tab) (g : Option Bool) (H : Heap) (nx : Nat) (t : TypeId) (x : AV) (lo hi : Option AV) (k : Res → Prop) : Prop :=
  match lkT T t with
  | some ⟨.string, _, _, _⟩ => match x with
    | .str s => bndI lo 0 fun l => bndI hi s.length fun h => ob g (0 ≤ l ∧ l ≤ h ∧ h ≤ s.length) (k ⟨.str (cut lo hi s l h), [], [], nx⟩)
    | _ => False
  | some ⟨.slice e, _, _, _⟩ => match lkT T e with
    | none => False
    | some ie => match x with
      | .lsl E s => bndI lo 0 fun l => bndI hi s.length fun h => ob g (0 ≤ l ∧ l ≤ h ∧ h ≤ s.length) (E = ie.size ∧ k ⟨.lsl E (cut lo hi s l h), [], [], nx⟩)
      | .sl E enc d s => bndI lo 0 fun l => bndI hi s.length fun h => ob g (0 ≤ l ∧ l ≤ h ∧ h ≤ s.length) (E = ie.size ∧ k ⟨.sl E enc d (cut lo hi s l h), [], [], nx⟩)
      | .own id => slN H (.own id) fun n _ => bndI lo 0 fun l => bndI hi n fun h => ob g (0 ≤ l ∧ l ≤ h ∧ h ≤ n) (match lo, hi with
        | none, none => k ⟨.own id, [id], [], nx⟩
        | none, some _ => k ⟨.pre id h.toNat, [id], [], nx⟩
        | some _, _ => k ⟨.part id ie.size l.toNat (h.toNat - l.toNat), [id], [], nx⟩)
      | _ => False
  | _ => False

def optUses (rd : Operand → AV) (x : Operand) (lo hi : Option Operand) : Uses :=
  (x, true, rd x) :: (lo.toList ++ hi.toList).map fun y => (y, true, rd y)

theorem opt_val {m : Ids} {S : Blocks} {w : World} {a : Act} {rd : Operand → AV} {lo : Option Operand} {l d : Int} (hl : lo.map rd = none → l = d) (hl2 : ∀ a, lo.map rd = some a → ∃ kk, a = .int kk l)
    (hr : ∀ y ∈ lo.toList, RelV m S w (a.eval y) (rd y)) : (lo.map a.eval = none ∧ l = d) ∨ ∃ k, lo.map a.eval = some (.int k l) := by
  cases lo with
  | none => exact .inl ⟨rfl, hl rfl⟩
  | some y =>
    obtain ⟨kk, hk⟩ := hl2 (rd y) rfl
    have := hr y (by simp)
    rw [hk] at this
    exact .inr ⟨kk, by simp [relV_int this]⟩

theorem evSlice_sound [Tabs] {P : Program} {T : Tab} (hT : TabOk P T) {g : Option Bool} {rd : Operand → AV} {H : Heap} {nx : Nat} {t : TypeId} {x : Operand} {lo hi : Option Operand} {o : Oper} (ho : o.op = .slice t x lo hi none) {k : Res → Prop}
    (h : evSlice T g H nx t (rd x) (lo.map rd) (hi.map rd) k) : ∃ r, (gOk g → OpSemP P o (optUses rd x lo hi) H nx r) ∧ (r.wr = [] ∧ r.nx = nx) ∧ k r := by
  have uses : ∀ {m : Ids} {S : Blocks} {w : World} {a : Act}, (∀ u ∈ optUses rd x lo hi, u.2.1 = true → RelV m S w (a.eval u.1) u.2.2) →
      RelV m S w (a.eval x) (rd x) ∧ (∀ y ∈ lo.toList, RelV m S w (a.eval y) (rd y)) ∧ (∀ y ∈ hi.toList, RelV m S w (a.eval y) (rd y)) := by
    intro m S w a hus
    refine ⟨hus (x, true, rd x) (by simp [optUses]) rfl, fun y hy => hus (y, true, rd y) ?_ rfl, fun y hy => hus (y, true, rd y) ?_ rfl⟩
    · exact List.mem_cons.2 (.inr (List.mem_map.2 ⟨y, by simp at hy ⊢; exact .inl hy, rfl⟩))
    · exact List.mem_cons.2 (.inr (List.mem_map.2 ⟨y, by simp at hy ⊢; exact .inr hy, rfl⟩))
  unfold evSlice at h
  split at h
  · rename_i hi'
    obtain ⟨hu, _⟩ := hT t _ hi'
    simp only at hu
    split at h
    · rename_i s hp
      obtain ⟨l, h, hl1, hl2⟩ := bndI_sound h
      obtain ⟨hh, h, hh1, hh2⟩ := bndI_sound h
      obtain ⟨hb, hk⟩ := ob_iff.1 h
      refine ⟨_, fun hg => opsem_pure fun m S w a H₂ hG ht hus => ?_, ⟨rfl, rfl⟩, hk⟩
      obtain ⟨hx, hlo, hhi⟩ := uses hus
      obtain ⟨b0, b1, b2⟩ := hb hg
      rw [hp] at hx
      generalize hv : a.eval x = v at hx
      cases hx with
      | t _ _ h => cases h with
        | str s' _ hs =>
          have hsz : s'.size = s.length := by rw [← hs]; simp
          have hbnd := fun w' => run_sliceBounds (P := P) (w := w') false s'.size s'.size (lo.map a.eval) (hi.map a.eval) l hh (opt_val hl1 hl2 hlo) (opt_val (by rw [hsz]; exact hh1) hh2 hhi) b0 b1 (by rw [hsz]; exact b2) (Nat.le_refl _)
          refine ⟨.string (s'.extract l.toNat hh.toNat), ?_, .t _ _ (.str _ _ ?_)⟩
          · intro w' _
            unfold execOp
            simp [ho, hv, Instr.sliceAt, run_underlying hu, Instr.slice, hbnd]
          · rw [cut_eq hl1 hh1, ← hs]
            rw [ByteArray.data_extract]
            simp [List.extract_eq_take_drop, List.take_drop]
            rw [show l.toNat + (hh.toNat - l.toNat) = hh.toNat by omega]
    · exact h.elim
  · rename_i e sz b z hi'
    obtain ⟨hu, _⟩ := hT t _ hi'
    simp only at hu
    split at h
    · exact h.elim
    · rename_i ie hie
      obtain ⟨_, j, hj, hs, _⟩ := hT e _ hie
      have run : ∀ (w : World) (a : Act) (g' o' n cap : Nat) (l hh : Int), a.eval x = .slice (some ⟨g', o', none⟩) n cap → ((lo.map a.eval = none ∧ l = 0) ∨ ∃ k, lo.map a.eval = some (.int k l)) → ((hi.map a.eval = none ∧ hh = n) ∨ ∃ k, hi.map a.eval = some (.int k hh)) →
          0 ≤ l → l ≤ hh → hh ≤ n → n ≤ cap → (execOp a.eval o).run P w = .ok (.value (.slice (some (if cap = l.toNat then ⟨g', o', none⟩ else ⟨g', o' + l.toNat * ie.size, none⟩)) (hh.toNat - l.toNat) (cap - l.toNat))) w := by
        intro w a g' o' n cap l hh hx hlo hhi b0 b1 b2 b3
        have hbnd := run_sliceBounds (P := P) (w := w) true n cap (lo.map a.eval) (hi.map a.eval) l hh hlo hhi b0 b1 b2 b3
        unfold execOp
        simp [ho, hx, Instr.sliceAt, run_underlying hu, Instr.slice, hbnd, sizeOf, typeInfo, hj, hs, Addr.add_mid]
        split <;> rfl
      have runN : ∀ (w : World) (a : Act) (l hh : Int), a.eval x = .slice none 0 0 → ((lo.map a.eval = none ∧ l = 0) ∨ ∃ k, lo.map a.eval = some (.int k l)) → ((hi.map a.eval = none ∧ hh = (0 : Nat)) ∨ ∃ k, hi.map a.eval = some (.int k hh)) →
          0 ≤ l → l ≤ hh → hh ≤ 0 → (execOp a.eval o).run P w = .ok (.value (.slice none 0 0)) w := by
        intro w a l hh hx hlo hhi b0 b1 b2
        have hbnd := run_sliceBounds (P := P) (w := w) true 0 0 (lo.map a.eval) (hi.map a.eval) l hh hlo hhi b0 b1 (by simpa using b2) (Nat.le_refl _)
        have e1 : l.toNat = 0 := by omega
        have e2 : hh.toNat = 0 := by omega
        unfold execOp
        simp [ho, hx, Instr.sliceAt, run_underlying hu, Instr.slice, hbnd, sizeOf, typeInfo, hj, hs, e1, e2]
      have runZ : ∀ (w : World) (a : Act) (ad : Addr) (l hh : Int), a.eval x = .slice (some ad) 0 0 → ((lo.map a.eval = none ∧ l = 0) ∨ ∃ k, lo.map a.eval = some (.int k l)) → ((hi.map a.eval = none ∧ hh = (0 : Nat)) ∨ ∃ k, hi.map a.eval = some (.int k hh)) →
          0 ≤ l → l ≤ hh → hh ≤ 0 → (execOp a.eval o).run P w = .ok (.value (.slice (some ad) 0 0)) w := by
        intro w a ad l hh hx hlo hhi b0 b1 b2
        have hbnd := run_sliceBounds (P := P) (w := w) true 0 0 (lo.map a.eval) (hi.map a.eval) l hh hlo hhi b0 b1 (by simpa using b2) (Nat.le_refl _)
        have e1 : l.toNat = 0 := by omega
        have e2 : hh.toNat = 0 := by omega
        unfold execOp
        simp [ho, hx, Instr.sliceAt, run_underlying hu, Instr.slice, hbnd, sizeOf, typeInfo, hj, hs, e1, e2]
      have lslcase : ∀ (s : List AV) {m : Ids} {S : Blocks} {w : World} {a : Act} (l hh : Int), RelT S w (a.eval x) (.lsl ie.size s) → ((lo.map a.eval = none ∧ l = 0) ∨ ∃ k, lo.map a.eval = some (.int k l)) → ((hi.map a.eval = none ∧ hh = s.length) ∨ ∃ k, hi.map a.eval = some (.int k hh)) →
          0 ≤ l → l ≤ hh → hh ≤ s.length → ∃ u, (∀ w', Grows w w' → (execOp a.eval o).run P w' = .ok (.value u) w') ∧ RelT S w u (.lsl ie.size ((s.take hh.toNat).drop l.toNat)) := by
        intro s m S w a l hh hx hlo hhi b0 b1 b2
        rcases relT_lsl hx with ⟨hv, hnil⟩ | ⟨g', o', cap, cs, hv, hS, hcap, hE, h1, hl, hc, hr⟩
        · subst hnil
          rcases hv with hv | ⟨ad, hv⟩
          · exact ⟨_, fun w' _ => runN w' a l hh hv hlo (by simpa using hhi) b0 b1 (by simpa using b2), by simp; exact .lslnil _⟩
          · exact ⟨_, fun w' _ => runZ w' a ad l hh hv hlo (by simpa using hhi) b0 b1 (by simpa using b2), by simp; exact .lslz _ _⟩
        · refine ⟨_, fun w' _ => run w' a g' o' _ cap l hh hv hlo hhi b0 b1 b2 hcap, ?_⟩
          have hsub := lsl_sub hS hcap hE h1 hl hc hr (lo := l.toNat) (hi := hh.toNat) (by omega) (by omega)
          by_cases hcl : cap = l.toNat
          · have e1 : hh.toNat = l.toNat := by omega
            have e2 : (s.take hh.toNat).drop l.toNat = [] := by rw [e1]; simp
            rw [e2]
            have := RelT.lsl (S := S) (w := w) ie.size [] g' o' (cap - l.toNat) [] hS (by simp) (by simp) (by simp [flat]) (by simp) (by simp) (by simp)
            simpa [hcl, e1] using this
          · simpa [hcl] using hsub
      split at h
      · rename_i E s hp
        obtain ⟨l, h, hl1, hl2⟩ := bndI_sound h
        obtain ⟨hh, h, hh1, hh2⟩ := bndI_sound h
        obtain ⟨hb, hE, hk⟩ := ob_iff.1 h
        subst hE
        refine ⟨_, fun hg => opsem_pure fun m S w a H₂ hG ht hus => ?_, ⟨rfl, rfl⟩, hk⟩
        obtain ⟨hx, hlo, hhi⟩ := uses hus
        obtain ⟨b0, b1, b2⟩ := hb hg
        rw [hp] at hx
        obtain ⟨u, hr, hu'⟩ := lslcase s (m := m) l hh (relV_lsl hx) (opt_val hl1 hl2 hlo) (opt_val hh1 hh2 hhi) b0 b1 b2
        exact ⟨u, hr, .t _ _ (by rw [cut_eq hl1 hh1]; exact hu')⟩
      · rename_i T' E enc d s hp
        obtain ⟨l, h, hl1, hl2⟩ := bndI_sound h
        obtain ⟨hh, h, hh1, hh2⟩ := bndI_sound h
        obtain ⟨hb, hE, hk⟩ := ob_iff.1 h
        subst hE
        refine ⟨_, fun hg => opsem_pure fun m S w a H₂ hG ht hus => ?_, ⟨rfl, rfl⟩, hk⟩
        obtain ⟨hx, hlo, hhi⟩ := uses hus
        obtain ⟨b0, b1, b2⟩ := hb hg
        rw [hp] at hx
        obtain ⟨u, hr, hu'⟩ := lslcase (s.map enc) (m := m) l hh (relV_sl hx) (opt_val hl1 hl2 hlo) (by simpa using opt_val hh1 hh2 hhi) b0 b1 (by simpa using b2)
        exact ⟨u, hr, .t _ _ (.sl _ _ _ _ _ (by rw [cut_eq hl1 hh1, List.map_drop, List.map_take]; exact hu'))⟩
      · rename_i id hp
        unfold slN at h
        simp only at h
        have main : ∀ (n : Nat), isRow (lkH H id) = true → (∀ (m : Ids) (S : Blocks) (w : World) (H₂ : Heap) (v : Value), Good m S w H₂ → lkH H₂ id = lkH H id → RelV m S w v (.own id) → SliceN v n ∧ ∀ a n' c, v = .slice a n' c → n' ≤ c) →
            (bndI (lo.map rd) 0 fun l => bndI (hi.map rd) n fun h => ob g (0 ≤ l ∧ l ≤ h ∧ h ≤ n) (match lo.map rd, hi.map rd with
              | none, none => k ⟨.own id, [id], [], nx⟩
              | none, some _ => k ⟨.pre id h.toNat, [id], [], nx⟩
              | some _, _ => k ⟨.part id ie.size l.toNat (h.toNat - l.toNat), [id], [], nx⟩)) →
            ∃ r, (gOk g → OpSemP P o (optUses rd x lo hi) H nx r) ∧ (r.wr = [] ∧ r.nx = nx) ∧ k r := by
          intro n hrow hlen h
          obtain ⟨l, h, hl1, hl2⟩ := bndI_sound h
          obtain ⟨hh, h, hh1, hh2⟩ := bndI_sound h
          obtain ⟨hb, hk⟩ := ob_iff.1 h
          have key : ∀ (v : AV), (∀ (m : Ids) (S : Blocks) (w : World) (a : Option Addr) (n' cap : Nat), 0 ≤ l → l ≤ hh → hh ≤ n → m id = some (.slice a n' cap) → n' = n → n' ≤ cap → ((a = none ∧ n' = 0 ∧ cap = 0) ∨ ∃ g, a = some ⟨g, 0, none⟩) →
              RelV m S w (.slice (if cap = l.toNat then a else a.map fun a => ⟨a.block, 0 + l.toNat * ie.size, none⟩) (hh.toNat - l.toNat) (cap - l.toNat)) v) → k ⟨v, [id], [], nx⟩ → ∃ r, (gOk g → OpSemP P o (optUses rd x lo hi) H nx r) ∧ (r.wr = [] ∧ r.nx = nx) ∧ k r := by
            intro v hrel hk
            refine ⟨_, fun hg => opsem_pure fun m S w a H₂ hG ht hus => ?_, ⟨rfl, rfl⟩, hk⟩
            obtain ⟨hx, hlo, hhi⟩ := uses hus
            obtain ⟨b0, b1, b2⟩ := hb hg
            rw [hp] at hx
            obtain ⟨hsn, hcap⟩ := hlen m S w H₂ _ hG (ht id (by simp)) hx
            generalize hv : a.eval x = v0 at hx hsn hcap
            cases hx with
            | t _ _ h => cases h
            | own id n' cap a' hm =>
              cases hsn
              have hc := hcap _ _ _ rfl
              have hra := row_addr hG (by rw [ht id (by simp)]; exact hrow) hm
              refine ⟨_, ?_, hrel m S w a' n cap b0 b1 b2 hm rfl hc hra⟩
              intro w' _
              rcases hra with ⟨rfl, hn0, hcap0⟩ | ⟨g', rfl⟩
              · subst hn0
                subst hcap0
                have e1 : l.toNat = 0 := by omega
                have e2 : hh.toNat = 0 := by omega
                have := runN w' a l hh hv (opt_val hl1 hl2 hlo) (opt_val hh1 hh2 hhi) b0 b1 (by simpa using b2)
                simpa [e1, e2] using this
              · have := run w' a g' 0 n cap l hh hv (opt_val hl1 hl2 hlo) (opt_val hh1 hh2 hhi) b0 b1 b2 hc
                rw [this]
                split <;> rfl
          split at hk
          · rename_i e1 e2
            refine key _ (fun m S w a n' cap b0 b1 b2 hm hn hc hra => ?_) hk
            have h0 : l = 0 := hl1 e1
            have h1 : hh = n := hh1 e2
            subst h0
            have e3 : hh.toNat = n' := by omega
            have : (if cap = (0 : Int).toNat then a else a.map fun a => (⟨a.block, 0 + (0 : Int).toNat * ie.size, none⟩ : Addr)) = a := by
              split
              · rfl
              · rcases hra with ⟨rfl, _⟩ | ⟨g', rfl⟩ <;> simp
            rw [this, e3]
            exact .own id _ _ _ hm
          · rename_i e1 e2
            refine key _ (fun m S w a n' cap b0 b1 b2 hm hn hc hra => ?_) hk
            have h0 : l = 0 := hl1 e1
            subst h0
            have : (if cap = (0 : Int).toNat then a else a.map fun a => (⟨a.block, 0 + (0 : Int).toNat * ie.size, none⟩ : Addr)) = a := by
              split
              · rfl
              · rcases hra with ⟨rfl, _⟩ | ⟨g', rfl⟩ <;> simp
            rw [this]
            exact .pre id _ n' cap a hm (by omega)
          · refine key _ (fun m S w a n' cap b0 b1 b2 hm hn hc hra => ?_) hk
            rcases hra with ⟨rfl, hn0, hcap0⟩ | ⟨g', rfl⟩
            · have e1 : l.toNat = 0 := by omega
              have e2 : hh.toNat = 0 := by omega
              rw [e1, e2, hcap0]
              exact .partN id ie.size 0
            · by_cases hcl : cap = l.toNat
              · have e1 : hh.toNat - l.toNat = 0 := by omega
                rw [if_pos hcl, e1]
                exact .partE id ie.size _ _ g' _ _ hm
              · rw [if_neg hcl]
                have := RelV.part (m := m) (S := S) (w := w) id ie.size l.toNat (hh.toNat - l.toNat) g' n' cap (cap - l.toNat) hm (by omega) (by omega)
                simpa using this
        split at h
        · rename_i e' E' s hid
          refine main s.length (by rw [hid]; rfl) (fun m S w H₂ v hG ht hr => ?_) h
          obtain ⟨v', vs, hmi, hrow⟩ := own_row (s := .lst s) hG ht hid
          cases hr with
          | t _ _ h => cases h
          | own id n cap a hm =>
            rw [hmi] at hm
            cases hm
            refine ⟨hrow.n, fun a n' c e => ?_⟩
            rcases hrow.owns.2 with ⟨h, _⟩ | ⟨g, cap, cur, h, _, _, hnc, _⟩ <;> rw [h] at e <;> cases e
            · exact Nat.le_refl _
            · exact hnc
        · rename_i T' e' E' enc d xs hid
          refine main xs.length (by rw [hid]; rfl) (fun m S w H₂ v hG ht hr => ?_) h
          obtain ⟨v', vs, hmi, hrow⟩ := own_row (s := .row enc d xs) hG ht hid
          cases hr with
          | t _ _ h => cases h
          | own id n cap a hm =>
            rw [hmi] at hm
            cases hm
            refine ⟨by simpa [Src.list] using hrow.n, fun a n' c e => ?_⟩
            rcases hrow.owns.2 with ⟨h, _⟩ | ⟨g, cap, cur, h, _, _, hnc, _⟩ <;> rw [h] at e <;> cases e
            · exact Nat.le_refl _
            · exact hnc
        · exact h.elim
      · exact h.elim
  · exact h.elim

end Go.Own
