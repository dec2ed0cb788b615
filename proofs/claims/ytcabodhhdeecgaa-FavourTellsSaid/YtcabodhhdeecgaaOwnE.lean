/-
  New variables, fields, indexes, lengths, arithmetic, over abstract values.
-/
import Derived.Test.YtcabodhhdeecgaaOwnD
namespace Go.Own

def avOf1 : Value → AV
  | .bool b => .bool b
  | .int k n => .int k n
  | .string s => .str s.data.toList
  | .pointer none => .nilp
  | .slice none 0 0 => .nils
  | .map none => .nilm
  | .nilFunc => .nilf
  | _ => .undef

def avOf : Value → AV
  | .agg cs => .agg (cs.toList.map avOf1)
  | .func f a b => .fn f (a.toList.map avOf1) (b.toList.map avOf1)
  | v => avOf1 v

theorem relT_avOf1 (S : Blocks) (w : World) (v : Value) : RelT S w v (avOf1 v) := by
  unfold avOf1
  split <;> constructor
  rfl

theorem relT_avOfL (S : Blocks) (w : World) (cs : Array Value) (j : Nat) (c : Value) (a : AV) (hj : cs[j]? = some c) (ha : (cs.toList.map avOf1)[j]? = some a) : RelT S w c a := by
  simp only [List.getElem?_map, Option.map_eq_some_iff] at ha
  obtain ⟨c', hc', rfl⟩ := ha
  rw [Array.getElem?_toList] at hc'
  rw [hc'] at hj
  cases hj
  exact relT_avOf1 S w _

theorem relT_avOf (S : Blocks) (w : World) (v : Value) : RelT S w v (avOf v) := by
  cases v with
  | agg cs => exact .agg _ _ (by simp) fun j c a hj ha => relT_avOfL S w cs j c a hj ha
  | func f a b => exact .fn _ _ _ _ _ (by simp) (by simp) (fun j c x hj ha => relT_avOfL S w a j c x hj ha) (fun j c x hj ha => relT_avOfL S w b j c x hj ha)
  | _ => exact relT_avOf1 S w _

/-- A new variable of a value. -/
def evBox (nx : Nat) (t : TypeId) (v : AV) (k : Res → Prop) : Prop :=
  withCells v fun xs => match allOne xs with
    | true => k ⟨.ptr nx 0, [], [(nx, .cells t xs)], nx + 1⟩
    | false => False

/-- The kind of an array's integers. -/
def elemK (T : Tab) : Nat → TypeId → Option IntKind
  | 0, _ => none
  | n + 1, t => match lkT T t with
    | some ⟨.int k, _, _, _⟩ => some k
    | some ⟨.array _ e, _, _, _⟩ => elemK T n e
    | _ => none

def arrK (T : Tab) (i : TI) : Option IntKind :=
  match i.desc with
  | .array _ e => elemK T 3 e
  | _ => none

def evAlloc (T : Tab) (nx : Nat) (t : TypeId) (k : Res → Prop) : Prop :=
  match lkT T t with
  | none => False
  | some i => match arrK T i with
    | some q => i.zero = .agg (Array.replicate i.size (.int q 0)) ∧ k ⟨.ptr nx 0, [], [(nx, .arr t q i.size (fun _ => 0))], nx + 1⟩
    | none => evBox nx t (avOf i.zero) k

theorem sem_newVar [Tabs] {P : Program} {o : Oper} {us : Uses} {H : Heap} {nx : Nat} {t : TypeId} {av : AV} (h1 : ∀ x ∈ av.cells, x.one = true)
    (h : ∀ (m : Ids) (S : Blocks) (w : World) (a : Act), (∀ u ∈ us, u.2.1 = true → RelV m S w (a.eval u.1) u.2.2) → ∃ v, RelV m S w v av ∧ (execOp a.eval o).run P w = .ok (.value (.pointer (some ⟨w.heap.size, 0, none⟩))) (w.alloc (.cells v.cells t))) :
    OpSem P o us H nx ⟨.ptr nx 0, [], [(nx, .cells t av.cells)], nx + 1⟩ := by
  intro m S w a H₂ K Q hG _ hfree hus hK
  obtain ⟨v, hv, hrun⟩ := h m S w a hus
  obtain ⟨c1, c2, c3⟩ := hv.cells h1
  unfold Oper.wp
  rw [hrun]
  have hn : m nx = none := hfree nx (Nat.le_refl _) (Nat.lt_succ_self _)
  have hids : ∀ i u, m i = some u → (fun i => if i = nx then some (.pointer (some ⟨w.heap.size, 0, none⟩)) else m i) i = some u := by
    intro i u hu
    have : i ≠ nx := by intro e; subst e; rw [hn] at hu; cases hu
    simp [this, hu]
  refine hK _ _ S _ (ext_new hG hn (.pointer (some ⟨w.heap.size, 0, none⟩)) _ (w.alloc (.cells v.cells t)) rfl rfl rfl (by simp) (fun k hk => RowKit.Below.heap_alloc w _ k hk) (fun k hk => by simp [blk] at hk; omega) ?_) (.ptr nx 0 w.heap.size (by simp))
  refine ⟨w.heap.size, v.cells, by simp, heap_alloc_new w _, c1, h1, fun j c x hj hx => (c2 j c x hj hx).mono hids (fun _ h => h) (fun g hg => RowKit.Below.heap_alloc w _ g (hG.ro g hg).1)⟩

theorem evBox_sound [Tabs] {P : Program} {rd : Operand → AV} {H : Heap} {nx : Nat} {t : TypeId} {x : Operand} {o : Oper} (ho : o.op = .box t x) {k : Res → Prop}
    (h : evBox nx t (rd x) k) : ∃ r, OpSem P o [(x, true, rd x)] H nx r ∧ nx ≤ r.nx ∧ k r := by
  unfold evBox at h
  rw [withCells_iff] at h
  split at h
  · rename_i h1
    refine ⟨_, sem_newVar (allOne_spec h1) fun m S w a hus => ⟨a.eval x, hus _ (List.mem_singleton.2 rfl) rfl, ?_⟩, Nat.le_succ _, h⟩
    unfold execOp
    simp [ho, Instr.box, newVar, newRow]
  · exact h.elim

theorem evAlloc_sound [Tabs] {P : Program} {T : Tab} (hT : TabOk P T) {H : Heap} {nx : Nat} {t : TypeId} {o : Oper} (ho : o.op = .alloc t) {k : Res → Prop}
    (h : evAlloc T nx t k) : ∃ r, OpSem P o [] H nx r ∧ nx ≤ r.nx ∧ k r := by
  unfold evAlloc at h
  split at h
  · exact h.elim
  rename_i i hi
  obtain ⟨_, j, hj, _, _, hz⟩ := hT t i hi
  split at h
  · rename_i q _
    obtain ⟨hz0, h⟩ := h
    refine ⟨_, ?_, Nat.le_succ _, h⟩
    intro m S w a H₂ K Q hG _ hfree hus hK
    unfold Oper.wp
    have hrun : (execOp a.eval o).run P w = .ok (.value (.pointer (some ⟨w.heap.size, 0, none⟩))) (w.alloc (.cells (Array.replicate i.size (.int q 0)) t)) := by
      unfold execOp
      simp [ho, Instr.alloc, zeroValue, typeInfo, hj, hz, newVar, newRow, hz0, Value.cells]
    rw [hrun]
    have hn : m nx = none := hfree nx (Nat.le_refl _) (Nat.lt_succ_self _)
    refine hK _ _ S _ (ext_new hG hn (.pointer (some ⟨w.heap.size, 0, none⟩)) _ (w.alloc (.cells (Array.replicate i.size (.int q 0)) t)) rfl rfl rfl (by simp) (fun k hk => RowKit.Below.heap_alloc w _ k hk) (fun k hk => by simp [blk] at hk; omega) ?_) (.ptr nx 0 w.heap.size (by simp))
    refine ⟨w.heap.size, _, by simp, heap_alloc_new w _, by simp, fun j c hj => ?_⟩
    rw [Array.getElem?_replicate] at hj
    split at hj
    · cases hj; rfl
    · cases hj
  unfold evBox at h
  rw [withCells_iff] at h
  split at h
  · rename_i h1
    refine ⟨_, sem_newVar (allOne_spec h1) fun m S w a _ => ⟨i.zero, .t _ _ (relT_avOf S w i.zero), ?_⟩, Nat.le_succ _, h⟩
    unfold execOp
    simp [ho, Instr.alloc, zeroValue, typeInfo, hj, hz, newVar, newRow]
  · exact h.elim

def evFieldAddr (T : Tab) (nx : Nat) (t : TypeId) (p : AV) (f : Nat) (k : Res → Prop) : Prop :=
  match lkT T t with
  | some ⟨.struct fs, _, _, _⟩ => match fs.toList[f]? with
    | none => False
    | some fl => match lkT T fl.type with
      | none => False
      | some fi => match fi.size with
        | 0 => False
        | _ + 1 => match p with
          | .ptr id off => k ⟨.ptr id (off + fl.offset), [], [], nx⟩
          | .rop l => match Nat.ble fl.offset l.length with
            | true => k ⟨.rop (dropL fl.offset l), [], [], nx⟩
            | false => False
          | .eptr id E i off => k ⟨.eptr id E i (off + fl.offset), [], [], nx⟩
          | _ => False
  | _ => False

theorem evFieldAddr_sound [Tabs] {P : Program} {T : Tab} (hT : TabOk P T) {rd : Operand → AV} {H : Heap} {nx : Nat} {t : TypeId} {x : Operand} {f : Nat} {o : Oper} (ho : o.op = .fieldAddr t x f) {k : Res → Prop}
    (h : evFieldAddr T nx t (rd x) f k) : ∃ r, OpSemP P o [(x, true, rd x)] H nx r ∧ (r.wr = [] ∧ r.nx = nx) ∧ k r := by
  unfold evFieldAddr at h
  split at h
  · rename_i fs s b z hi
    split at h
    · exact h.elim
    · rename_i fl hfl
      split at h
      · exact h.elim
      · rename_i fi hfi
        split at h
        · exact h.elim
        · rename_i q hq
          obtain ⟨hu, _⟩ := hT t _ hi
          obtain ⟨_, j, hj, hs, _, _⟩ := hT _ _ hfi
          rw [Array.getElem?_toList] at hfl
          have hplace : ∀ (w : World) (g o : Nat), (Instr.fieldAt t (.pointer (some ⟨g, o, none⟩)) f).run P w = .ok (.pointer (some ⟨g, o + fl.offset, none⟩)) w := by
            intro w g o
            simp only at hu
            simp [Instr.fieldAt, run_underlying hu, hfl, Instr.sureAddr, fieldPlace, sizeOf, typeInfo, hj, hs, hq, Addr.add_mid]
          split at h
          · rename_i id off hp
            refine ⟨_, opsem_pure fun m S w a H₂ hG ht hus => ?_, ⟨rfl, rfl⟩, h⟩
            have hx : RelV m S w (a.eval x) (rd x) := hus _ (List.mem_singleton.2 rfl) rfl
            rw [hp] at hx
            generalize hv : a.eval x = v at hx
            cases hx with
            | t _ _ h => cases h
            | ptr id off g hm =>
              refine ⟨_, ?_, .ptr id (off + fl.offset) g hm⟩
              intro w' _
              unfold execOp
              simp only [ho, hv, Sem.run_bind, hplace, Result.andThen_ok]
              rfl
          · rename_i l hp
            split at h
            · rename_i hle
              refine ⟨_, opsem_pure fun m S w a H₂ hG ht hus => ?_, ⟨rfl, rfl⟩, h⟩
              have hx : RelV m S w (a.eval x) (rd x) := hus _ (List.mem_singleton.2 rfl) rfl
              rw [hp] at hx
              generalize hv : a.eval x = v at hx
              cases hx with
              | t _ _ h => cases h with
                | rop g o l cs hs hl h1 hc h =>
                  refine ⟨.pointer (some ⟨g, o + fl.offset, none⟩), ?_, .t _ _ (.rop g (o + fl.offset) _ (cs.drop fl.offset) hs (by simp [dropL_eq, hl]) (fun a ha => h1 a (by rw [dropL_eq] at ha; exact List.mem_of_mem_drop ha)) (fun j c hj => ?_) (fun j c a hj ha => ?_))⟩
                  · intro w' _
                    unfold execOp
                    simp only [ho, hv, Sem.run_bind, hplace, Result.andThen_ok]
                    rfl
                  · rw [List.getElem?_drop] at hj
                    have := hc _ _ hj
                    rwa [← Nat.add_assoc] at this
                  · rw [List.getElem?_drop] at hj
                    rw [dropL_eq, List.getElem?_drop] at ha
                    exact h _ _ _ hj ha
            · exact h.elim
          · rename_i id E i off hp
            refine ⟨_, opsem_pure fun m S w a H₂ hG ht hus => ?_, ⟨rfl, rfl⟩, h⟩
            have hx : RelV m S w (a.eval x) (rd x) := hus _ (List.mem_singleton.2 rfl) rfl
            rw [hp] at hx
            generalize hv : a.eval x = v at hx
            cases hx with
            | t _ _ h => cases h
            | eptr id E i off g n cap hm =>
              refine ⟨.pointer (some ⟨g, i * E + (off + fl.offset), none⟩), ?_, .eptr id E i (off + fl.offset) g n cap hm⟩
              intro w' _
              unfold execOp
              simp only [ho, hv, Sem.run_bind, hplace, Result.andThen_ok, Nat.add_assoc]
              rfl
          · exact h.elim
  · exact h.elim

def evField (T : Tab) (nx : Nat) (t : TypeId) (v : AV) (f : Nat) (k : Res → Prop) : Prop :=
  match lkT T t with
  | some ⟨.struct fs, _, _, _⟩ => match fs.toList[f]? with
    | none => False
    | some fl => match lkT T fl.type with
      | none => False
      | some fi => match v with
        | .agg l => match isAggD fi.desc with
          | true => match Nat.ble (fl.offset + fi.size) l.length with
            | true => k ⟨.agg (takeL fi.size (dropL fl.offset l)), [], [], nx⟩
            | false => False
          | false => match dropL fl.offset l with
            | a :: _ => k ⟨a, [], [], nx⟩
            | [] => False
        | _ => False
  | _ => False

theorem relV_agg {m : Ids} {S : Blocks} {w : World} {v : Value} {l : List AV} (h : RelV m S w v (.agg l)) :
    ∃ cs, v = .agg cs ∧ cs.size = l.length ∧ ∀ (j : Nat) (c : Value) (a : AV), cs[j]? = some c → l[j]? = some a → RelV m S w c a := by
  cases h with
  | t _ _ h => cases h with
    | agg cs l hl h => exact ⟨cs, rfl, hl, fun j c a p q => .t _ _ (h j c a p q)⟩
  | agg cs l hl h => exact ⟨cs, rfl, hl, h⟩

theorem relV_tup {m : Ids} {S : Blocks} {w : World} {v : Value} {l : List AV} (h : RelV m S w v (.tup l)) :
    ∃ cs, v = .tuple cs ∧ cs.size = l.length ∧ ∀ (j : Nat) (c : Value) (a : AV), cs[j]? = some c → l[j]? = some a → RelV m S w c a := by
  cases h with
  | t _ _ h => cases h with
    | tup cs l hl h => exact ⟨cs, rfl, hl, fun j c a p q => .t _ _ (h j c a p q)⟩
  | tup cs l hl h => exact ⟨cs, rfl, hl, h⟩

theorem evField_sound [Tabs] {P : Program} {T : Tab} (hT : TabOk P T) {rd : Operand → AV} {H : Heap} {nx : Nat} {t : TypeId} {x : Operand} {f : Nat} {o : Oper} (ho : o.op = .field t x f) {k : Res → Prop}
    (h : evField T nx t (rd x) f k) : ∃ r, OpSemP P o [(x, true, rd x)] H nx r ∧ (r.wr = [] ∧ r.nx = nx) ∧ k r := by
  unfold evField at h
  split at h
  · rename_i fs s b z hi
    split at h
    · exact h.elim
    · rename_i fl hfl
      split at h
      · exact h.elim
      · rename_i fi hfi
        obtain ⟨hu, _⟩ := hT t _ hi
        obtain ⟨hu', j, hj, hs, _, _⟩ := hT _ _ hfi
        rw [Array.getElem?_toList] at hfl
        have hagg : ∀ w, (isAgg fl.type).run P w = .ok (isAggD fi.desc) w := by
          intro w
          unfold isAgg
          rw [Sem.run_bind, run_underlying hu' w]
          cases fi.desc <;> rfl
        split at h
        · rename_i l hp
          split at h
          · rename_i hag
            split at h
            · rename_i hle
              refine ⟨_, opsem_pure fun m S w a H₂ hG ht hus => ?_, ⟨rfl, rfl⟩, h⟩
              have hx : RelV m S w (a.eval x) (rd x) := hus _ (List.mem_singleton.2 rfl) rfl
              rw [hp] at hx
              obtain ⟨cs, hv, hl, hrel⟩ := relV_agg hx
              have hle' := Nat.le_of_ble_eq_true hle
              refine ⟨.agg (cs.extract fl.offset (fl.offset + fi.size)), ?_, .agg _ _ ?_ ?_⟩
              · intro w' _
                unfold execOp
                simp only at hu
                simp [ho, hv, Instr.field, run_underlying hu, hfl, part, hagg, hag, asAgg, sizeOf, typeInfo, hj, hs]
              · simp [takeL_eq, dropL_eq, List.length_take]; omega
              · intro j c a hj ha
                rw [takeL_eq, dropL_eq, List.getElem?_take] at ha
                split at ha
                · rw [List.getElem?_drop] at ha
                  rw [Array.getElem?_extract] at hj
                  split at hj
                  · exact hrel _ _ _ hj ha
                  · cases hj
                · cases ha
            · exact h.elim
          · rename_i hag
            split at h
            · rename_i a0 rest hd
              refine ⟨_, opsem_pure fun m S w a H₂ hG ht hus => ?_, ⟨rfl, rfl⟩, h⟩
              have hx : RelV m S w (a.eval x) (rd x) := hus _ (List.mem_singleton.2 rfl) rfl
              rw [hp] at hx
              obtain ⟨cs, hv, hl, hrel⟩ := relV_agg hx
              have hget : l[fl.offset]? = some a0 := by
                have : (dropL fl.offset l)[0]? = some a0 := by rw [hd]; rfl
                rwa [dropL_eq, List.getElem?_drop, Nat.add_zero] at this
              have hlt : fl.offset < cs.size := by rw [hl]; exact (List.getElem?_eq_some_iff.1 hget).1
              refine ⟨cs[fl.offset], ?_, hrel _ _ _ (by simp [hlt]) hget⟩
              intro w' _
              unfold execOp
              simp only at hu
              simp [ho, hv, Instr.field, run_underlying hu, hfl, part, hagg, hag, asAgg, hlt]
            · exact h.elim
        · exact h.elim
  · exact h.elim

def evExtract (nx : Nat) (v : AV) (n : Nat) (k : Res → Prop) : Prop :=
  match v with
  | .tup l => match l[n]? with
    | some a => k ⟨a, [], [], nx⟩
    | none => False
  | _ => False

theorem evExtract_sound [Tabs] {P : Program} {rd : Operand → AV} {H : Heap} {nx : Nat} {x : Operand} {n : Nat} {o : Oper} (ho : o.op = .extract x n) {k : Res → Prop}
    (h : evExtract nx (rd x) n k) : ∃ r, OpSemP P o [(x, true, rd x)] H nx r ∧ (r.wr = [] ∧ r.nx = nx) ∧ k r := by
  unfold evExtract at h
  split at h
  · rename_i l hp
    split at h
    · rename_i a0 hget
      refine ⟨_, opsem_pure fun m S w a H₂ hG ht hus => ?_, ⟨rfl, rfl⟩, h⟩
      have hx : RelV m S w (a.eval x) (rd x) := hus _ (List.mem_singleton.2 rfl) rfl
      rw [hp] at hx
      obtain ⟨cs, hv, hl, hrel⟩ := relV_tup hx
      have hlt : n < cs.size := by rw [hl]; exact (List.getElem?_eq_some_iff.1 hget).1
      refine ⟨cs[n], ?_, hrel _ _ _ (by simp [hlt]) hget⟩
      intro w' _
      unfold execOp
      simp [ho, hv, Instr.extract, hlt]
    · exact h.elim
  · exact h.elim

end Go.Own
