/-
  make([]T, n) for elements of one cell.
-/
import Derived.Test.YtcabodhhdeecgaaOwnP
import Derived.Laws.OwnMore
namespace Go.Own

def oneV : Value → Bool
  | .bool _ | .int _ _ | .string _ | .slice _ _ _ | .map _ | .pointer _ => true
  | _ => false

theorem oneV_cells {v : Value} (h : oneV v = true) : v.cells = #[v] := by
  cases v <;> first | rfl | (simp [oneV] at h)

def evMakeSlice (T : Tab) (nx : Nat) (t : TypeId) (x y : AV) (k : Res → Prop) : Prop :=
  match lkT T t with
  | some ⟨.slice e, _, _, _⟩ => match lkT T e with
    | none => False
    | some i => match x with
      | .int _ n => match y with
        | .int _ m => match oneV i.zero && (avOf1 i.zero).one && Nat.beq i.size 1 && Nat.ble 1 i.bytes with
          | true => (m = n ∧ 0 ≤ n ∧ i.bytes * n.toNat ≤ 140737488355328) ∧ k ⟨.own nx, [], [(nx, .lst e 1 (List.replicate n.toNat (avOf1 i.zero)))], nx + 1⟩
          | false => False
        | _ => False
      | _ => False
  | _ => False

theorem one_cellsL {a : AV} (h : a.one = true) : a.cells = [a] := by
  cases a <;> first | rfl | (simp [AV.one] at h)

theorem flat_rep {a : AV} (h : a.one = true) : ∀ n, flat (List.replicate n a) = List.replicate n a
  | 0 => rfl
  | n + 1 => by
    have := flat_rep h n
    unfold flat at this ⊢
    rw [List.replicate_succ, List.flatMap_cons, this, one_cellsL h]
    rfl

theorem evMakeSlice_sound [Tabs] {P : Program} {T : Tab} (hT : TabOk P T) {rd : Operand → AV} {H : Heap} {nx : Nat} {t : TypeId} {x y : Operand} {o : Oper} (ho : o.op = .makeSlice t x y) {k : Res → Prop}
    (h : evMakeSlice T nx t (rd x) (rd y) k) : ∃ r, OpSem P o [(x, true, rd x), (y, true, rd y)] H nx r ∧ nx ≤ r.nx ∧ k r := by
  unfold evMakeSlice at h
  split at h
  · rename_i e s b z hi
    split at h
    · exact h.elim
    · rename_i i hie
      split at h
      · rename_i kx n hx
        split at h
        · rename_i ky m' hy
          split at h
          · rename_i hc
            simp only [Bool.and_eq_true] at hc
            obtain ⟨⟨⟨c1, c2⟩, c3⟩, c4⟩ := hc
            obtain ⟨⟨rfl, hn0, hbytes⟩, hk⟩ := h
            obtain ⟨hu, _⟩ := hT t _ hi
            obtain ⟨_, j, hj, hs, hby, hz⟩ := hT e _ hie
            simp only at hu
            have hsz : i.size = 1 := Nat.eq_of_beq_eq_true c3
            have hb1 : 1 ≤ i.bytes := Nat.le_of_ble_eq_true c4
            refine ⟨_, ?_, Nat.le_succ _, hk⟩
            intro m S w a H₂ K Q hG _ hfree hus hK
            have hvx : RelV m S w (a.eval x) (rd x) := hus (x, true, rd x) (by simp) rfl
            have hvy : RelV m S w (a.eval y) (rd y) := hus (y, true, rd y) (by simp) rfl
            rw [hx] at hvx
            rw [hy] at hvy
            have ex := relV_int hvx
            have ey := relV_int hvy
            have hn' : m nx = none := hfree nx (Nat.le_refl _) (Nat.lt_succ_self _)
            have hnle : m'.toNat ≤ 140737488355328 := Nat.le_trans (Nat.le_mul_of_pos_left _ hb1) hbytes
            have hcast : ((i.bytes * m'.toNat : Nat) : Int) = (i.bytes : Int) * m' := by rw [Int.natCast_mul, Int.toNat_of_nonneg hn0]
            have hr := run_make (P := P) w t e j i.zero hu hj hz kx ky m' m' hn0 (Int.le_refl _) (by rw [hby]; omega) (by omega)
            unfold Oper.wp execOp
            simp only [ho, ex, ey, Sem.run_bind, hr, Result.andThen_ok]
            rw [hs, hsz, Nat.mul_one, oneV_cells c1]
            have hml := toList_madeCells_one i.zero m'.toNat
            have hms := size_madeCells #[i.zero] m'.toNat
            generalize madeCells #[i.zero] m'.toNat = cells at hml hms
            show K (a.put o.dst (.slice (some ⟨w.heap.size, 0, none⟩) m'.toNat m'.toNat)) _
            refine hK _ _ S _ (ext_new hG hn' (.slice (some ⟨w.heap.size, 0, none⟩) m'.toNat m'.toNat) _ (w.alloc (.cells cells e)) rfl rfl rfl (by simp) (fun k hk => RowKit.Below.heap_alloc w _ k hk) (fun k hk => by simp [blk] at hk; omega) ?_) (.own nx _ _ (some ⟨w.heap.size, 0, none⟩) (by simp))
            refine ⟨_, cells.toList, by simp; rfl, ?_⟩
            have hmade := RowRel.made (S := S) (w := w) (e := e) (E := 1) (l := List.replicate m'.toNat (avOf1 i.zero)) (cells := cells) (by simpa using hms) (maxLen_ge (by simpa using hnle))
              (fun x hx => by rw [(List.mem_replicate.1 hx).2, one_cellsL c2]; rfl) (fun a ha => by rw [flat_rep c2] at ha; rw [(List.mem_replicate.1 ha).2]; exact c2)
              (fun q c x hq hx => by
                rw [flat_rep c2] at hx
                have e1 : x = avOf1 i.zero := (List.mem_replicate.1 (List.mem_of_getElem? hx)).2
                have e2 : c = i.zero := by
                  have : cells.toList[q]? = some c := by simpa using hq
                  rw [hml] at this
                  exact (List.mem_replicate.1 (List.mem_of_getElem? this)).2
                rw [e1, e2]
                exact relT_avOf1 S w _) (fun g hg => (hG.ro g hg).1)
            simpa using hmade
          · exact h.elim
        · exact h.elim
      · exact h.elim
  · exact h.elim

end Go.Own
