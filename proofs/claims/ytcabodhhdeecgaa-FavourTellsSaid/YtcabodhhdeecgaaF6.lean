import Derived.Test.YtcabodhhdeecgaaF5
namespace Go.Proofs.Ytcabodhhdeecgaa
open Go.Own Go.Proofs.Fav
set_option maxHeartbeats 4000000
set_option maxRecDepth 100000

theorem encC_ne {c : List Nat} (h : c ≠ []) : encC c = .sl 1 encI 0 (cs c) := by
  cases c with
  | nil => exact (h rfl).elim
  | cons x c => rfl
theorem cs_getD (c : List Nat) (m : Nat) : (cs c).getD m 0 = ((c.getD m 0 : Nat) : Int) := by
  unfold cs
  rw [List.getD_eq_getElem?_getD, List.getElem?_map, List.getD_eq_getElem?_getD]
  cases c[m]? <;> rfl
theorem cs_len (c : List Nat) : (cs c).length = c.length := by unfold cs; rw [List.length_map]
theorem cs_append (a b : List Nat) : cs (a ++ b) = cs a ++ cs b := by unfold cs; rw [List.map_append]
theorem next_get {l : List J} {a : Nat} (ha : a < l.length) : (nextL l).getD a [] = cs (nxt l a) := by
  unfold nextL
  rw [List.getD_eq_getElem?_getD, List.getElem?_map, List.getElem?_range ha]
  rfl

theorem bfs_stop {l : List J} {days : List Int} {most : Int} {i t : Nat} (h : (bfs l days most i t).D.length ≤ t) : ∀ s, bfs l days most i (t + s) = bfs l days most i t
  | 0 => rfl
  | s + 1 => by
    have ih := bfs_stop h s
    show stepB l days most (t + s) (bfs l days most i (t + s)) = _
    rw [ih]
    unfold stepB
    rw [List.getElem?_eq_none (by omega)]

/-- The state within a round. -/
def within (l : List J) (days : List Int) (most : Int) (i t a m : Nat) : BS := ((nxt l a).take m).foldl (visit days most a) (bfs l days most i t)
theorem within_succ {l : List J} {days : List Int} {most : Int} {i t a m : Nat} (h : m < (nxt l a).length) : within l days most i t a (m + 1) = visit days most a (within l days most i t a m) ((nxt l a).getD m 0) := by
  unfold within
  rw [take_getD (d := 0) h, List.foldl_append]
  rfl
theorem within_all {l : List J} {days : List Int} {most : Int} {i t a : Nat} (h : (bfs l days most i t).D[t]? = some a) : within l days most i t a (nxt l a).length = bfs l days most i (t + 1) := by
  unfold within
  rw [List.take_of_length_le (Nat.le_refl _)]
  show _ = stepB l days most t _
  unfold stepB
  rw [h]
theorem within_inv {l : List J} {days : List Int} {most : Int} {i t a : Nat} (hi : i < l.length) (h : (bfs l days most i t).D[t]? = some a) (m : Nat) :
    (∃ N, Inv l days most i t N (within l days most i t a m)) ∧ (within l days most i t a m).D[t]? = some a := by
  have h1 := inv_fold (t := t) (a := a) ((nxt l a).take m) _ (bfs l days most i t) (inv_bfs hi t) h (fun k hk => mem_nxt.1 (List.mem_of_mem_take hk)) ((nxt_sorted l a).sublist (List.take_sublist m _)) (fun x hx => hx.elim)
  exact ⟨⟨_, h1.1⟩, h1.2⟩

theorem flat_one1 {l : List AV} (h : ∀ a ∈ l, a.cells = [a]) : flat l = l := by
  induction l with
  | nil => rfl
  | cons a l ih =>
    show a.cells ++ flat l = a :: l
    rw [h a (by simp), ih fun x hx => h x (by simp [hx])]
    rfl
theorem encC_cells (L : List (List Nat)) : ∀ x ∈ L.map encC, x.cells.length = 1 := fun x hx => by
  obtain ⟨c, _, rfl⟩ := List.mem_map.1 hx
  cases c <;> rfl
theorem encC_ones (L : List (List Nat)) : ∀ a ∈ flat (L.map encC), a.one = true := fun a ha => by
  obtain ⟨x, hx, hax⟩ := List.mem_flatMap.1 ha
  obtain ⟨c, _, rfl⟩ := List.mem_map.1 hx
  cases c <;> (simp [encC, AV.cells] at hax; subst hax; rfl)
theorem LeTs.of_get {l r : List AV} (hl : r.length = l.length) (h : ∀ (j : Nat) (a b : AV), l[j]? = some a → r[j]? = some b → LeT a b) : LeTs l r := by
  induction l generalizing r with
  | nil =>
    cases r with
    | nil => exact .nil
    | cons b r => simp at hl
  | cons a l ih =>
    cases r with
    | nil => simp at hl
    | cons b r => exact .cons (h 0 a b rfl rfl) (ih (by simpa using hl) fun j x y h1 h2 => h (j + 1) x y h1 h2)
/-- The first row of chains, as it was written. -/
theorem first_let (n i : Nat) : LeTs (flat (Src.list (.lst ((List.replicate ((n : Int)).toNat AV.nils).set ((i : Int)).toNat (.lsl 1 [.int .i64 (i : Int)]))))) (flat (((List.replicate n ([] : List Nat)).set i [i]).map encC)) := by
  have e1 : flat (Src.list (.lst ((List.replicate ((n : Int)).toNat AV.nils).set ((i : Int)).toNat (.lsl 1 [.int .i64 (i : Int)])))) = (List.replicate n AV.nils).set i (.lsl 1 [.int .i64 (i : Int)]) := by
    refine flat_one1 fun a ha => ?_
    rcases List.mem_or_eq_of_mem_set ha with h | h
    · rw [(List.mem_replicate.1 h).2]; rfl
    · rw [h]; rfl
  have e2 : flat (((List.replicate n ([] : List Nat)).set i [i]).map encC) = ((List.replicate n ([] : List Nat)).set i [i]).map encC := by
    refine flat_one1 fun a ha => ?_
    obtain ⟨c, _, rfl⟩ := List.mem_map.1 ha
    cases c <;> rfl
  rw [e1, e2]
  refine LeTs.of_get (by simp) fun j a b h1 h2 => ?_
  rw [List.getElem?_set] at h1
  rw [List.getElem?_map, List.getElem?_set] at h2
  by_cases e : i = j
  · rw [if_pos e] at h1 h2
    simp only [List.length_replicate] at h1 h2
    split at h1
    · rename_i hlt
      rw [if_pos hlt] at h2
      cases h1
      cases h2
      exact .lsl_sl encI 0 [(i : Int)] rfl
    · cases h1
  · rw [if_neg e] at h1 h2
    rw [List.getElem?_replicate] at h1 h2
    split at h1
    · rename_i hlt
      rw [if_pos hlt] at h2
      cases h1
      cases h2
      exact .refl _
    · cases h1

theorem inv_clen {l : List J} {days : List Int} {most : Int} {i t : Nat} {N : Nat → Prop} {s : BS} (h : Fav.Inv l days most i t N s) : ∀ (j k : Nat), s.D[j]? = some k → (s.out.getD k []).length ≤ j + 1 := by
  intro j
  induction j using Nat.strongRecOn with
  | _ j ih =>
    intro k hj
    cases j with
    | zero => rw [(h.first k hj).2]; exact Nat.le_refl _
    | succ j =>
      obtain ⟨p, q, h1, h2, h3, _⟩ := h.par j k hj
      have := ih p (by omega) q h2
      rw [h3, List.length_append, List.length_singleton]
      omega

theorem chains_ok (l : List J) (days : List Int) (i : Nat) (most : Int) (hR : Right l days) (hi : i < l.length) : APure Try.prog 20 [.rop (encG l days), .int .i64 i, .int .i64 most] (fun rs => rs = [.new (.row 23 1 encC [] (chains l days i most))]) := by
  have hn := hR.len
  have hdl := hR.same
  have hnl : (nextL l).length = l.length := by unfold nextL; simp
  have e1 : days.getD (i : Int).toNat 0 = days.getD i 0 := by rw [Int.toNat_natCast]
  have hrep : (List.replicate ((l.length : Int)).toNat AV.nils) = (List.replicate l.length ([] : List Nat)).map encC := by rw [Int.toNat_natCast, List.map_replicate]; rfl
  have hch : chains l days i most = (bfs l days most i l.length).out := rfl
  have hst := fun (t : Nat) (h : (bfs l days most i t).D.length ≤ t) => bfs_stop (l := l) (days := days) (most := most) (i := i) h
  have hs0 : bfs l days most i 0 = startB l days most i := rfl
  have hinv := fun t => inv_bfs (l := l) (days := days) (most := most) hi t
  have hget := fun a (ha : a < l.length) => next_get (l := l) (a := a) ha
  have hwit := fun t a (h : (bfs l days most i t).D[t]? = some a) m => within_inv hi h m
  have hwis := fun t a m (h : m < (nxt l a).length) => within_succ (l := l) (days := days) (most := most) (i := i) (t := t) h
  have hwia := fun t a (h : (bfs l days most i t).D[t]? = some a) => within_all h
  have hwi0 : ∀ t a, within l days most i t a 0 = bfs l days most i t := fun _ _ => rfl
  have hmem := fun a k => (mem_nxt (l := l) (i := a) (k := k)).1
  generalize hB : bfs l days most i = B at *
  generalize hWi : within l days most i = Wi at *
  unfold encG
  generalize hNx : nextL l = Nx at *
  refine apure_ofw (C := cx 88 [0, 1, 2, 6, 7, 8, 9, 11, 26, 37, 49, 50, 51, 52, 70]) (cxOk _ _) Try.func20 rfl (by decide) rfl (by exact Nat.le_of_ble_eq_true rfl) (by decide) ?_
  conv => whnf
  repeat (first | (refine And.intro ⟨by omega, by omega⟩ ?_; conv => whnf) | (refine And.intro (by omega) (And.intro rfl ?_); conv => whnf) | (refine And.intro rfl ?_; conv => whnf) | (refine And.intro (fun _ => ⟨by omega, by omega⟩) ?_; conv => whnf) | (refine And.intro (fun _ => by omega) (And.intro rfl ?_); conv => whnf) | (refine And.intro ⟨(by first | omega | (simp; omega)), (by first | omega | (simp; omega))⟩ ?_; conv => whnf) | (refine Exists.intro _ (And.intro rfl (And.intro (by first | omega | (simp; omega)) (And.intro ⟨rfl, rfl, rfl, rfl, rfl⟩ ?_))); conv => whnf) | (refine And.intro ⟨rfl, rfl⟩ (And.intro (by first | omega | (simp; omega)) ?_); conv => whnf) | (refine Exists.intro _ (And.intro rfl ?_); conv => whnf) | (refine And.intro (fun _ => ?_) (fun h => absurd h (by decide)); conv => whnf) | (refine And.intro (fun h => absurd h (by decide)) (fun _ => ?_); conv => whnf) | (refine .quiet (by kernel_rfl) ?_; conv => whnf))
  rw [hnl]
  repeat (first | (refine And.intro ⟨by omega, by omega⟩ ?_; conv => whnf) | (refine And.intro (by omega) (And.intro rfl ?_); conv => whnf) | (refine And.intro rfl ?_; conv => whnf) | (refine And.intro (fun _ => ⟨by omega, by omega⟩) ?_; conv => whnf) | (refine And.intro (fun _ => by omega) (And.intro rfl ?_); conv => whnf) | (refine And.intro ⟨(by first | omega | (simp; omega)), (by first | omega | (simp; omega))⟩ ?_; conv => whnf) | (refine Exists.intro _ (And.intro rfl (And.intro (by first | omega | (simp; omega)) (And.intro ⟨rfl, rfl, rfl, rfl, rfl⟩ ?_))); conv => whnf) | (refine And.intro ⟨rfl, rfl⟩ (And.intro (by first | omega | (simp; omega)) ?_); conv => whnf) | (refine Exists.intro _ (And.intro rfl ?_); conv => whnf) | (refine And.intro (fun _ => ?_) (fun h => absurd h (by decide)); conv => whnf) | (refine And.intro (fun h => absurd h (by decide)) (fun _ => ?_); conv => whnf) | (refine .quiet (by kernel_rfl) ?_; conv => whnf))
  rw [e1]
  refine ⟨fun hc => ?_, fun hc => ?_⟩
  · have hc' : ¬ days.getD i 0 ≤ most := by
      have := of_decide_eq_true hc
      omega
    have he : chains l days i most = List.replicate l.length [] := by
      have h0 : B 0 = ⟨List.replicate l.length [], []⟩ := by rw [hs0]; unfold startB; rw [if_neg hc']
      rw [hch]
      have := hst 0 (by rw [h0]; exact Nat.le_refl _) l.length
      rw [Nat.zero_add] at this
      rw [this, h0]
    conv => whnf
    refine ⟨⟨[(6, .own 0)], [(0, .row 23 1 encC [] (List.replicate l.length []))], 1⟩, (wk_of [(0, .id 0)] rfl ⟨(by first | exact .base (.own _ _ rfl) | exact .base (.nilown _ rfl) | exact .base (.trunc _ _ _ rfl)), trivial⟩ ⟨⟨_, rfl, (by first | exact .row _ _ _ _ _ _ _ rfl (hrep) | exact .lstrow _ _ _ _ _ _ _ rfl (hrep) | exact .nilrow _ _ _ _ _ (hrep) | exact .truncrow _ _ _ _ _ _ _ _ rfl (by omega) (hrep))⟩, trivial⟩), ?_⟩
    conv => whnf
    rw [he]
    rfl
  · have hc' : days.getD i 0 ≤ most := by
      have := of_decide_eq_false hc
      omega
    have h0 : B 0 = ⟨(List.replicate l.length []).set i [i], [i]⟩ := by rw [hs0]; unfold startB; rw [if_pos hc']
    conv => whnf
    repeat (first | (refine And.intro ⟨by omega, by omega⟩ ?_; conv => whnf) | (refine And.intro (by omega) (And.intro rfl ?_); conv => whnf) | (refine And.intro rfl ?_; conv => whnf) | (refine And.intro (fun _ => ⟨by omega, by omega⟩) ?_; conv => whnf) | (refine And.intro (fun _ => by omega) (And.intro rfl ?_); conv => whnf) | (refine And.intro ⟨(by first | omega | (simp; omega)), (by first | omega | (simp; omega))⟩ ?_; conv => whnf) | (refine Exists.intro _ (And.intro rfl (And.intro (by first | omega | (simp; omega)) (And.intro ⟨rfl, rfl, rfl, rfl, rfl⟩ ?_))); conv => whnf) | (refine And.intro ⟨rfl, rfl⟩ (And.intro (by first | omega | (simp; omega)) ?_); conv => whnf) | (refine Exists.intro _ (And.intro rfl ?_); conv => whnf) | (refine And.intro (fun _ => ?_) (fun h => absurd h (by decide)); conv => whnf) | (refine And.intro (fun h => absurd h (by decide)) (fun _ => ?_); conv => whnf) | (refine .quiet (by kernel_rfl) ?_; conv => whnf))
    refine And.intro (by rw [List.length_replicate, Int.toNat_natCast, Int.toNat_natCast]; exact hi) (And.intro ⟨rfl, rfl, rfl, rfl, rfl⟩ ?_)
    conv => whnf
    repeat (first | (refine And.intro ⟨by omega, by omega⟩ ?_; conv => whnf) | (refine And.intro (by omega) (And.intro rfl ?_); conv => whnf) | (refine And.intro rfl ?_; conv => whnf) | (refine And.intro (fun _ => ⟨by omega, by omega⟩) ?_; conv => whnf) | (refine And.intro (fun _ => by omega) (And.intro rfl ?_); conv => whnf) | (refine And.intro ⟨(by first | omega | (simp; omega)), (by first | omega | (simp; omega))⟩ ?_; conv => whnf) | (refine Exists.intro _ (And.intro rfl (And.intro (by first | omega | (simp; omega)) (And.intro ⟨rfl, rfl, rfl, rfl, rfl⟩ ?_))); conv => whnf) | (refine And.intro ⟨rfl, rfl⟩ (And.intro (by first | omega | (simp; omega)) ?_); conv => whnf) | (refine Exists.intro _ (And.intro rfl ?_); conv => whnf) | (refine And.intro (fun _ => ?_) (fun h => absurd h (by decide)); conv => whnf) | (refine And.intro (fun h => absurd h (by decide)) (fun _ => ?_); conv => whnf) | (refine .quiet (by kernel_rfl) ?_; conv => whnf))
    refine loop_up (cxOk _ _) l.length (fun _ => True) (fun t => ⟨[(0, .rop [.sl 1 encIs [] Nx, encIs days]), (1, .int .i64 (i : Nat)), (2, .int .i64 most), (7, .own 0), (8, .own 1)], [(0, .row 23 1 encC [] (B t).out), (1, .que 3 1 encI 0 (cs ((B t).D.drop t)))], 2⟩) trivial (by
      rw [h0]
      exact (wk_of [(0, .id 0), (1, .id 2)] rfl ⟨.base (.tree _ _ rfl rfl), .base (.tree _ _ rfl rfl), .base (.tree _ _ rfl rfl), (by first | exact .base (.own _ _ rfl) | exact .base (.nilown _ rfl) | exact .base (.trunc _ _ _ rfl)), (by first | exact .base (.own _ _ rfl) | exact .base (.nilown _ rfl) | exact .base (.trunc _ _ _ rfl)), trivial⟩ ⟨⟨_, rfl, .rowT 0 23 1 (.lst _) encC [] _ rfl (by simp [Src.list]) (encC_cells _) (encC_ones _) (first_let l.length i)⟩, ⟨_, rfl, .lstque 2 3 1 _ encI 0 [(i : Int)] rfl rfl (by simp)⟩, trivial⟩)) ?_
    intro t ht _
    have hI := hinv t
    have hDl := hI.dlen
    have hcd : (cs ((B t).D.drop t)).length = (B t).D.length - t := by rw [cs_len, List.length_drop]
    conv => whnf
    repeat (first | (refine And.intro ⟨by omega, by omega⟩ ?_; conv => whnf) | (refine And.intro (by omega) (And.intro rfl ?_); conv => whnf) | (refine And.intro rfl ?_; conv => whnf) | (refine And.intro (fun _ => ⟨by omega, by omega⟩) ?_; conv => whnf) | (refine And.intro (fun _ => by omega) (And.intro rfl ?_); conv => whnf) | (refine And.intro ⟨(by first | omega | (simp; omega)), (by first | omega | (simp; omega))⟩ ?_; conv => whnf) | (refine Exists.intro _ (And.intro rfl (And.intro (by first | omega | (simp; omega)) (And.intro ⟨rfl, rfl, rfl, rfl, rfl⟩ ?_))); conv => whnf) | (refine And.intro ⟨rfl, rfl⟩ (And.intro (by first | omega | (simp; omega)) ?_); conv => whnf) | (refine Exists.intro _ (And.intro rfl ?_); conv => whnf) | (refine And.intro (fun _ => ?_) (fun h => absurd h (by decide)); conv => whnf) | (refine And.intro (fun h => absurd h (by decide)) (fun _ => ?_); conv => whnf) | (refine .quiet (by kernel_rfl) ?_; conv => whnf))
    rw [hcd]
    refine ⟨fun hd => ?_, fun hd => ?_⟩
    · have hlt : t < (B t).D.length := by
        have := of_decide_eq_true hd
        omega
      obtain ⟨a, ha⟩ : ∃ a, (B t).D[t]? = some a := ⟨_, List.getElem?_eq_getElem hlt⟩
      have haV := hI.inV a (List.mem_of_getElem? ha)
      have hal : a < l.length := haV.1
      have hga : (cs ((B t).D.drop t)).getD (Int.toNat 0) 0 = (a : Int) := by
        rw [show Int.toNat 0 = 0 from rfl, cs_getD, List.getD_eq_getElem?_getD, List.getElem?_drop, Nat.add_zero, ha]
        rfl
      have hw := hwit t a ha
      have hws := hwis t a
      have hwa := hwia t a ha
      have hw0 := hwi0 t a
      have hga2 := hget a hal
      have hea : (a : Int).toNat = a := Int.toNat_natCast a
      have hmk := hmem a
      have hks2 : (nxt l a).length ≤ l.length := by
        unfold nxt
        have := List.length_filter_le (fv l a) (List.range l.length)
        rwa [List.length_range] at this
      generalize hks : nxt l a = ks at *
      generalize hV : Wi t a = V at *
      conv => whnf
      repeat (first | (refine And.intro ⟨by omega, by omega⟩ ?_; conv => whnf) | (refine And.intro (by omega) (And.intro rfl ?_); conv => whnf) | (refine And.intro rfl ?_; conv => whnf) | (refine And.intro (fun _ => ⟨by omega, by omega⟩) ?_; conv => whnf) | (refine And.intro (fun _ => by omega) (And.intro rfl ?_); conv => whnf) | (refine And.intro ⟨(by first | omega | (simp; omega)), (by first | omega | (simp; omega))⟩ ?_; conv => whnf) | (refine Exists.intro _ (And.intro rfl (And.intro (by first | omega | (simp; omega)) (And.intro ⟨rfl, rfl, rfl, rfl, rfl⟩ ?_))); conv => whnf) | (refine And.intro ⟨rfl, rfl⟩ (And.intro (by first | omega | (simp; omega)) ?_); conv => whnf) | (refine Exists.intro _ (And.intro rfl ?_); conv => whnf) | (refine And.intro (fun _ => ?_) (fun h => absurd h (by decide)); conv => whnf) | (refine And.intro (fun h => absurd h (by decide)) (fun _ => ?_); conv => whnf) | (refine .quiet (by kernel_rfl) ?_; conv => whnf))
      rw [hga, hea, hga2]
      refine loop_up (cxOk _ _) ks.length (fun _ => True) (fun m => ⟨[(0, .rop [.sl 1 encIs [] Nx, encIs days]), (1, .int .i64 (i : Nat)), (2, .int .i64 most), (7, .own 0), (8, .own 1), (9, .int .i64 (a : Nat)), (49, .sl 1 encI 0 (cs ks)), (50, .int .i64 ks.length), (51, .int .i64 (m : Nat))], [(0, .row 23 1 encC [] (V m).out), (1, .que 3 1 encI 0 (cs ((V m).D.drop t)))], 2⟩) trivial (by
        rw [hw0]
        exact (wk_of [(0, .id 0), (1, .id 1)] rfl ⟨.base (.tree _ _ rfl rfl), .base (.tree _ _ rfl rfl), .base (.tree _ _ rfl rfl), (by first | exact .base (.own _ _ rfl) | exact .base (.nilown _ rfl) | exact .base (.trunc _ _ _ rfl)), (by first | exact .base (.own _ _ rfl) | exact .base (.nilown _ rfl) | exact .base (.trunc _ _ _ rfl)), .base (.tree _ _ rfl rfl), .base (.tree _ _ (show AV.sl 1 encI 0 _ = AV.sl 1 encI 0 _ by rfl) rfl), .base (.tree _ _ (show AV.int .i64 _ = AV.int .i64 _ by rw [cs_len]) rfl), .base (.tree _ _ rfl rfl), trivial⟩ ⟨⟨_, rfl, (by first | exact .row _ _ _ _ _ _ _ rfl rfl | exact .lstrow _ _ _ _ _ _ _ rfl rfl | exact .nilrow _ _ _ _ _ rfl | exact .truncrow _ _ _ _ _ _ _ _ rfl (by omega) rfl)⟩, ⟨_, rfl, .que _ _ _ _ _ _ _ rfl rfl⟩, trivial⟩)) ?_
      intro m hm _
      obtain ⟨⟨N, hIm⟩, hDm⟩ := hw m
      have hDml := hIm.dlen
      have hol := hIm.len
      have hne := (hIm.mem a).1 (List.mem_of_getElem? hDm)
      have hclen := inv_clen hIm t a hDm
      conv => whnf
      refine ⟨fun hd2 => ?_, fun hd2 => ?_⟩
      · have hmt : m < ks.length := by
          have := of_decide_eq_true hd2
          omega
        have hwsm := hws m hmt
        have hgk : (cs ks).getD (m : Int).toNat 0 = ((ks.getD m 0 : Nat) : Int) := by rw [Int.toNat_natCast, cs_getD]
        have hkl := (hmk (ks.getD m 0) (fgetD_mem hmt)).1
        have hcl := cs_len ks
        unfold visit at hwsm
        generalize hk : ks.getD m 0 = k at *
        have hek : (k : Int).toNat = k := Int.toNat_natCast k
        have htm := get_lt hDm
        have hdrop : (V m).D.drop t ≠ [] := by
          intro e
          have := congrArg List.length e
          rw [List.length_drop] at this
          simp at this
          omega
        have q1 : (V (m + 1)).out = if (V m).out.getD k [] = [] ∧ days.getD k 0 ≤ most then (V m).out.set k ((V m).out.getD a [] ++ [k]) else (V m).out := by rw [hwsm]; split <;> rfl
        have q2 : (V (m + 1)).D = if (V m).out.getD k [] = [] ∧ days.getD k 0 ≤ most then (V m).D ++ [k] else (V m).D := by rw [hwsm]; split <;> rfl
        have hclm := hclen
        clear hwsm hw hIm hclen
        generalize (V m).out = out at *
        generalize (V m).D = D at *
        conv => whnf
        repeat (first | (refine And.intro ⟨by omega, by omega⟩ ?_; conv => whnf) | (refine And.intro (by omega) (And.intro rfl ?_); conv => whnf) | (refine And.intro rfl ?_; conv => whnf) | (refine And.intro (fun _ => ⟨by omega, by omega⟩) ?_; conv => whnf) | (refine And.intro (fun _ => by omega) (And.intro rfl ?_); conv => whnf) | (refine And.intro ⟨(by first | omega | (simp; omega)), (by first | omega | (simp; omega))⟩ ?_; conv => whnf) | (refine Exists.intro _ (And.intro rfl (And.intro (by first | omega | (simp; omega)) (And.intro ⟨rfl, rfl, rfl, rfl, rfl⟩ ?_))); conv => whnf) | (refine And.intro ⟨rfl, rfl⟩ (And.intro (by first | omega | (simp; omega)) ?_); conv => whnf) | (refine Exists.intro _ (And.intro rfl ?_); conv => whnf) | (refine And.intro (fun _ => ?_) (fun h => absurd h (by decide)); conv => whnf) | (refine And.intro (fun h => absurd h (by decide)) (fun _ => ?_); conv => whnf) | (refine .quiet (by kernel_rfl) ?_; conv => whnf))
        rw [hgk]
        conv => whnf
        repeat (first | (refine And.intro ⟨by omega, by omega⟩ ?_; conv => whnf) | (refine And.intro (by omega) (And.intro rfl ?_); conv => whnf) | (refine And.intro rfl ?_; conv => whnf) | (refine And.intro (fun _ => ⟨by omega, by omega⟩) ?_; conv => whnf) | (refine And.intro (fun _ => by omega) (And.intro rfl ?_); conv => whnf) | (refine And.intro ⟨(by first | omega | (simp; omega)), (by first | omega | (simp; omega))⟩ ?_; conv => whnf) | (refine Exists.intro _ (And.intro rfl (And.intro (by first | omega | (simp; omega)) (And.intro ⟨rfl, rfl, rfl, rfl, rfl⟩ ?_))); conv => whnf) | (refine And.intro ⟨rfl, rfl⟩ (And.intro (by first | omega | (simp; omega)) ?_); conv => whnf) | (refine Exists.intro _ (And.intro rfl ?_); conv => whnf) | (refine And.intro (fun _ => ?_) (fun h => absurd h (by decide)); conv => whnf) | (refine And.intro (fun h => absurd h (by decide)) (fun _ => ?_); conv => whnf) | (refine .quiet (by kernel_rfl) ?_; conv => whnf))
        rw [hek]
        have hdk : days.getD (k : Int).toNat 0 = days.getD k 0 := by rw [hek]
        cases hok : out.getD k [] with
        | nil =>
          conv => whnf
          repeat (first | (refine And.intro ⟨by omega, by omega⟩ ?_; conv => whnf) | (refine And.intro (by omega) (And.intro rfl ?_); conv => whnf) | (refine And.intro rfl ?_; conv => whnf) | (refine And.intro (fun _ => ⟨by omega, by omega⟩) ?_; conv => whnf) | (refine And.intro (fun _ => by omega) (And.intro rfl ?_); conv => whnf) | (refine And.intro ⟨(by first | omega | (simp; omega)), (by first | omega | (simp; omega))⟩ ?_; conv => whnf) | (refine Exists.intro _ (And.intro rfl (And.intro (by first | omega | (simp; omega)) (And.intro ⟨rfl, rfl, rfl, rfl, rfl⟩ ?_))); conv => whnf) | (refine And.intro ⟨rfl, rfl⟩ (And.intro (by first | omega | (simp; omega)) ?_); conv => whnf) | (refine Exists.intro _ (And.intro rfl ?_); conv => whnf) | (refine And.intro (fun _ => ?_) (fun h => absurd h (by decide)); conv => whnf) | (refine And.intro (fun h => absurd h (by decide)) (fun _ => ?_); conv => whnf) | (refine .quiet (by kernel_rfl) ?_; conv => whnf))
          rw [hdk]
          refine ⟨fun hd3 => ?_, fun hd3 => ?_⟩
          · have hd4 : days.getD k 0 ≤ most := of_decide_eq_true hd3
            rw [if_pos ⟨hok, hd4⟩] at q1 q2
            cases hoa : out.getD a [] with
            | nil => exact (hne hoa).elim
            | cons c1 cc1 =>
              rw [hoa] at q1 hclm
              have hcln := clone_ok (cs (c1 :: cc1)) (by rw [cs_len]; omega)
              have hcl2 : (cs (c1 :: cc1)).length ≤ 400 := by rw [cs_len]; omega
              have happ : cs (c1 :: cc1) ++ [(k : Int)] = cs (c1 :: cc1 ++ [k]) := by rw [cs_append]; rfl
              have hlc : (cs (D.drop t)).length ≤ 400 := by rw [cs_len, List.length_drop]; omega
              have hdr : cs (D.drop t) ++ [(k : Int)] = cs ((D ++ [k]).drop t) := by
                rw [List.drop_append_of_le_length (by omega), cs_append]; rfl
              conv => whnf
              repeat (first | (refine And.intro ⟨by omega, by omega⟩ ?_; conv => whnf) | (refine And.intro (by omega) (And.intro rfl ?_); conv => whnf) | (refine And.intro rfl ?_; conv => whnf) | (refine And.intro (fun _ => ⟨by omega, by omega⟩) ?_; conv => whnf) | (refine And.intro (fun _ => by omega) (And.intro rfl ?_); conv => whnf) | (refine And.intro ⟨(by first | omega | (simp; omega)), (by first | omega | (simp; omega))⟩ ?_; conv => whnf) | (refine Exists.intro _ (And.intro rfl (And.intro (by first | omega | (simp; omega)) (And.intro ⟨rfl, rfl, rfl, rfl, rfl⟩ ?_))); conv => whnf) | (refine And.intro ⟨rfl, rfl⟩ (And.intro (by first | omega | (simp; omega)) ?_); conv => whnf) | (refine Exists.intro _ (And.intro rfl ?_); conv => whnf) | (refine And.intro (fun _ => ?_) (fun h => absurd h (by decide)); conv => whnf) | (refine And.intro (fun h => absurd h (by decide)) (fun _ => ?_); conv => whnf) | (refine .quiet (by kernel_rfl) ?_; conv => whnf))
              rw [hea]
              rw [hoa]
              conv => whnf
              repeat (first | (refine And.intro ⟨by omega, by omega⟩ ?_; conv => whnf) | (refine And.intro (by omega) (And.intro rfl ?_); conv => whnf) | (refine And.intro rfl ?_; conv => whnf) | (refine And.intro (fun _ => ⟨by omega, by omega⟩) ?_; conv => whnf) | (refine And.intro (fun _ => by omega) (And.intro rfl ?_); conv => whnf) | (refine And.intro ⟨(by first | omega | (simp; omega)), (by first | omega | (simp; omega))⟩ ?_; conv => whnf) | (refine Exists.intro _ (And.intro rfl (And.intro (by first | omega | (simp; omega)) (And.intro ⟨rfl, rfl, rfl, rfl, rfl⟩ ?_))); conv => whnf) | (refine And.intro ⟨rfl, rfl⟩ (And.intro (by first | omega | (simp; omega)) ?_); conv => whnf) | (refine Exists.intro _ (And.intro rfl ?_); conv => whnf) | (refine And.intro (fun _ => ?_) (fun h => absurd h (by decide)); conv => whnf) | (refine And.intro (fun h => absurd h (by decide)) (fun _ => ?_); conv => whnf) | (refine .quiet (by kernel_rfl) ?_; conv => whnf))
              refine .one _ _ _ (fun _ => hcln) (by repeat (first | exact .nil | (apply BorL.cons; first | exact lS rfl | exact lR rfl | exact lM rfl rfl | exact lL rfl | exact lX rfl | exact lN | exact lNl | exact lSm rfl | exact lIm rfl | exact lP rfl | exact lQ rfl))) (by first | exact .inl rfl | exact .inr (by repeat (first | exact flats_nil | refine flats_cons (by first | exact flat_val _ rfl | exact flat_row (fun _ => rfl) | exact flat_lst (fun _ => rfl)) ?_))) (by first | exact .inl rfl | exact .inr rfl) ?_
              conv => whnf
              repeat (first | (refine And.intro ⟨by omega, by omega⟩ ?_; conv => whnf) | (refine And.intro (by omega) (And.intro rfl ?_); conv => whnf) | (refine And.intro rfl ?_; conv => whnf) | (refine And.intro (fun _ => ⟨by omega, by omega⟩) ?_; conv => whnf) | (refine And.intro (fun _ => by omega) (And.intro rfl ?_); conv => whnf) | (refine And.intro ⟨(by first | omega | (simp; omega)), (by first | omega | (simp; omega))⟩ ?_; conv => whnf) | (refine Exists.intro _ (And.intro rfl (And.intro (by first | omega | (simp; omega)) (And.intro ⟨rfl, rfl, rfl, rfl, rfl⟩ ?_))); conv => whnf) | (refine And.intro ⟨rfl, rfl⟩ (And.intro (by first | omega | (simp; omega)) ?_); conv => whnf) | (refine Exists.intro _ (And.intro rfl ?_); conv => whnf) | (refine And.intro (fun _ => ?_) (fun h => absurd h (by decide)); conv => whnf) | (refine And.intro (fun h => absurd h (by decide)) (fun _ => ?_); conv => whnf) | (refine .quiet (by kernel_rfl) ?_; conv => whnf))
              refine And.intro ⟨rfl, rfl⟩ (And.intro (show ((cs (c1 :: cc1)).length + 1) * 8 ≤ 140737488355328 by omega) ?_)
              conv => whnf
              refine ⟨(k : Int), rfl, ?_⟩
              conv => whnf
              repeat (first | (refine And.intro ⟨by omega, by omega⟩ ?_; conv => whnf) | (refine And.intro (by omega) (And.intro rfl ?_); conv => whnf) | (refine And.intro rfl ?_; conv => whnf) | (refine And.intro (fun _ => ⟨by omega, by omega⟩) ?_; conv => whnf) | (refine And.intro (fun _ => by omega) (And.intro rfl ?_); conv => whnf) | (refine And.intro ⟨(by first | omega | (simp; omega)), (by first | omega | (simp; omega))⟩ ?_; conv => whnf) | (refine Exists.intro _ (And.intro rfl (And.intro (by first | omega | (simp; omega)) (And.intro ⟨rfl, rfl, rfl, rfl, rfl⟩ ?_))); conv => whnf) | (refine And.intro ⟨rfl, rfl⟩ (And.intro (by first | omega | (simp; omega)) ?_); conv => whnf) | (refine Exists.intro _ (And.intro rfl ?_); conv => whnf) | (refine And.intro (fun _ => ?_) (fun h => absurd h (by decide)); conv => whnf) | (refine And.intro (fun h => absurd h (by decide)) (fun _ => ?_); conv => whnf) | (refine .quiet (by kernel_rfl) ?_; conv => whnf))
              refine ⟨c1 :: cc1 ++ [k], (show AV.sl 1 encI 0 (cs (c1 :: cc1 ++ [k])) = AV.sl 1 encI 0 (cs (c1 :: cc1) ++ [(k : Int)]) by rw [happ]), (by rw [hek]; omega), ⟨rfl, rfl, rfl, rfl, rfl⟩, ?_⟩
              conv => whnf
              repeat (first | (refine And.intro ⟨by omega, by omega⟩ ?_; conv => whnf) | (refine And.intro (by omega) (And.intro rfl ?_); conv => whnf) | (refine And.intro rfl ?_; conv => whnf) | (refine And.intro (fun _ => ⟨by omega, by omega⟩) ?_; conv => whnf) | (refine And.intro (fun _ => by omega) (And.intro rfl ?_); conv => whnf) | (refine And.intro ⟨(by first | omega | (simp; omega)), (by first | omega | (simp; omega))⟩ ?_; conv => whnf) | (refine Exists.intro _ (And.intro rfl (And.intro (by first | omega | (simp; omega)) (And.intro ⟨rfl, rfl, rfl, rfl, rfl⟩ ?_))); conv => whnf) | (refine And.intro ⟨rfl, rfl⟩ (And.intro (by first | omega | (simp; omega)) ?_); conv => whnf) | (refine Exists.intro _ (And.intro rfl ?_); conv => whnf) | (refine And.intro (fun _ => ?_) (fun h => absurd h (by decide)); conv => whnf) | (refine And.intro (fun h => absurd h (by decide)) (fun _ => ?_); conv => whnf) | (refine .quiet (by kernel_rfl) ?_; conv => whnf))
              refine up hmt trivial ((wk_of [(0, .id 0), (1, .id 6)] rfl ⟨.base (.tree _ _ rfl rfl), .base (.tree _ _ rfl rfl), .base (.tree _ _ rfl rfl), (by first | exact .base (.own _ _ rfl) | exact .base (.nilown _ rfl) | exact .base (.trunc _ _ _ rfl)), (by first | exact .base (.own _ _ rfl) | exact .base (.nilown _ rfl) | exact .base (.trunc _ _ _ rfl)), .base (.tree _ _ rfl rfl), .base (.tree _ _ rfl rfl), .base (.tree _ _ rfl rfl), .base (.tree _ _ rfl rfl), trivial⟩ ⟨⟨_, rfl, (by first | exact .row _ _ _ _ _ _ _ rfl (by rw [hek, ← q1]) | exact .lstrow _ _ _ _ _ _ _ rfl (by rw [hek, ← q1]) | exact .nilrow _ _ _ _ _ (by rw [hek, ← q1]) | exact .truncrow _ _ _ _ _ _ _ _ rfl (by omega) (by rw [hek, ← q1]))⟩, ⟨_, rfl, .que _ _ _ _ _ _ _ rfl (by rw [hdr, ← q2])⟩, trivial⟩))
          · have hd4 : ¬ days.getD k 0 ≤ most := of_decide_eq_false hd3
            rw [if_neg (fun h => hd4 h.2)] at q1 q2
            conv => whnf
            repeat (first | (refine And.intro ⟨by omega, by omega⟩ ?_; conv => whnf) | (refine And.intro (by omega) (And.intro rfl ?_); conv => whnf) | (refine And.intro rfl ?_; conv => whnf) | (refine And.intro (fun _ => ⟨by omega, by omega⟩) ?_; conv => whnf) | (refine And.intro (fun _ => by omega) (And.intro rfl ?_); conv => whnf) | (refine And.intro ⟨(by first | omega | (simp; omega)), (by first | omega | (simp; omega))⟩ ?_; conv => whnf) | (refine Exists.intro _ (And.intro rfl (And.intro (by first | omega | (simp; omega)) (And.intro ⟨rfl, rfl, rfl, rfl, rfl⟩ ?_))); conv => whnf) | (refine And.intro ⟨rfl, rfl⟩ (And.intro (by first | omega | (simp; omega)) ?_); conv => whnf) | (refine Exists.intro _ (And.intro rfl ?_); conv => whnf) | (refine And.intro (fun _ => ?_) (fun h => absurd h (by decide)); conv => whnf) | (refine And.intro (fun h => absurd h (by decide)) (fun _ => ?_); conv => whnf) | (refine .quiet (by kernel_rfl) ?_; conv => whnf))
            refine up hmt trivial ((wk_of [(0, .id 0), (1, .id 1)] rfl ⟨.base (.tree _ _ rfl rfl), .base (.tree _ _ rfl rfl), .base (.tree _ _ rfl rfl), (by first | exact .base (.own _ _ rfl) | exact .base (.nilown _ rfl) | exact .base (.trunc _ _ _ rfl)), (by first | exact .base (.own _ _ rfl) | exact .base (.nilown _ rfl) | exact .base (.trunc _ _ _ rfl)), .base (.tree _ _ rfl rfl), .base (.tree _ _ rfl rfl), .base (.tree _ _ rfl rfl), .base (.tree _ _ rfl rfl), trivial⟩ ⟨⟨_, rfl, (by first | exact .row _ _ _ _ _ _ _ rfl (by rw [← q1]) | exact .lstrow _ _ _ _ _ _ _ rfl (by rw [← q1]) | exact .nilrow _ _ _ _ _ (by rw [← q1]) | exact .truncrow _ _ _ _ _ _ _ _ rfl (by omega) (by rw [← q1]))⟩, ⟨_, rfl, .que _ _ _ _ _ _ _ rfl (by rw [← q2])⟩, trivial⟩))
        | cons c0 cc =>
          rw [if_neg (fun h => by rw [hok] at h; cases h.1)] at q1 q2
          conv => whnf
          repeat (first | (refine And.intro ⟨by omega, by omega⟩ ?_; conv => whnf) | (refine And.intro (by omega) (And.intro rfl ?_); conv => whnf) | (refine And.intro rfl ?_; conv => whnf) | (refine And.intro (fun _ => ⟨by omega, by omega⟩) ?_; conv => whnf) | (refine And.intro (fun _ => by omega) (And.intro rfl ?_); conv => whnf) | (refine And.intro ⟨(by first | omega | (simp; omega)), (by first | omega | (simp; omega))⟩ ?_; conv => whnf) | (refine Exists.intro _ (And.intro rfl (And.intro (by first | omega | (simp; omega)) (And.intro ⟨rfl, rfl, rfl, rfl, rfl⟩ ?_))); conv => whnf) | (refine And.intro ⟨rfl, rfl⟩ (And.intro (by first | omega | (simp; omega)) ?_); conv => whnf) | (refine Exists.intro _ (And.intro rfl ?_); conv => whnf) | (refine And.intro (fun _ => ?_) (fun h => absurd h (by decide)); conv => whnf) | (refine And.intro (fun h => absurd h (by decide)) (fun _ => ?_); conv => whnf) | (refine .quiet (by kernel_rfl) ?_; conv => whnf))
          intro b hb
          have hb' : b = false := by
            cases b with
            | false => rfl
            | true => cases (hb rfl)
          subst hb'
          conv => whnf
          repeat (first | (refine And.intro ⟨by omega, by omega⟩ ?_; conv => whnf) | (refine And.intro (by omega) (And.intro rfl ?_); conv => whnf) | (refine And.intro rfl ?_; conv => whnf) | (refine And.intro (fun _ => ⟨by omega, by omega⟩) ?_; conv => whnf) | (refine And.intro (fun _ => by omega) (And.intro rfl ?_); conv => whnf) | (refine And.intro ⟨(by first | omega | (simp; omega)), (by first | omega | (simp; omega))⟩ ?_; conv => whnf) | (refine Exists.intro _ (And.intro rfl (And.intro (by first | omega | (simp; omega)) (And.intro ⟨rfl, rfl, rfl, rfl, rfl⟩ ?_))); conv => whnf) | (refine And.intro ⟨rfl, rfl⟩ (And.intro (by first | omega | (simp; omega)) ?_); conv => whnf) | (refine Exists.intro _ (And.intro rfl ?_); conv => whnf) | (refine And.intro (fun _ => ?_) (fun h => absurd h (by decide)); conv => whnf) | (refine And.intro (fun h => absurd h (by decide)) (fun _ => ?_); conv => whnf) | (refine .quiet (by kernel_rfl) ?_; conv => whnf))
          refine ⟨fun hf5 => ?_, fun hf5 => ?_⟩
          · cases hf5
          conv => whnf
          repeat (first | (refine And.intro ⟨by omega, by omega⟩ ?_; conv => whnf) | (refine And.intro (by omega) (And.intro rfl ?_); conv => whnf) | (refine And.intro rfl ?_; conv => whnf) | (refine And.intro (fun _ => ⟨by omega, by omega⟩) ?_; conv => whnf) | (refine And.intro (fun _ => by omega) (And.intro rfl ?_); conv => whnf) | (refine And.intro ⟨(by first | omega | (simp; omega)), (by first | omega | (simp; omega))⟩ ?_; conv => whnf) | (refine Exists.intro _ (And.intro rfl (And.intro (by first | omega | (simp; omega)) (And.intro ⟨rfl, rfl, rfl, rfl, rfl⟩ ?_))); conv => whnf) | (refine And.intro ⟨rfl, rfl⟩ (And.intro (by first | omega | (simp; omega)) ?_); conv => whnf) | (refine Exists.intro _ (And.intro rfl ?_); conv => whnf) | (refine And.intro (fun _ => ?_) (fun h => absurd h (by decide)); conv => whnf) | (refine And.intro (fun h => absurd h (by decide)) (fun _ => ?_); conv => whnf) | (refine .quiet (by kernel_rfl) ?_; conv => whnf))
          refine up hmt trivial ((wk_of [(0, .id 0), (1, .id 1)] rfl ⟨.base (.tree _ _ rfl rfl), .base (.tree _ _ rfl rfl), .base (.tree _ _ rfl rfl), (by first | exact .base (.own _ _ rfl) | exact .base (.nilown _ rfl) | exact .base (.trunc _ _ _ rfl)), (by first | exact .base (.own _ _ rfl) | exact .base (.nilown _ rfl) | exact .base (.trunc _ _ _ rfl)), .base (.tree _ _ rfl rfl), .base (.tree _ _ rfl rfl), .base (.tree _ _ rfl rfl), .base (.tree _ _ rfl rfl), trivial⟩ ⟨⟨_, rfl, (by first | exact .row _ _ _ _ _ _ _ rfl (by rw [← q1]) | exact .lstrow _ _ _ _ _ _ _ rfl (by rw [← q1]) | exact .nilrow _ _ _ _ _ (by rw [← q1]) | exact .truncrow _ _ _ _ _ _ _ _ rfl (by omega) (by rw [← q1]))⟩, ⟨_, rfl, .que _ _ _ _ _ _ _ rfl (by rw [← q2])⟩, trivial⟩))
      · have hmt : m = ks.length := by
          have := of_decide_eq_false hd2
          omega
        subst hmt
        have htB : t < (B (t + 1)).D.length := by
          have := get_lt (hw ks.length).2
          rwa [hwa] at this
        have htB2 : (cs ((B (t + 1)).D.drop t)).length = (B (t + 1)).D.length - t := by rw [cs_len, List.length_drop]
        have hdr1 : (cs ((B (t + 1)).D.drop t)).drop (Int.toNat 1) = cs ((B (t + 1)).D.drop (t + 1)) := by
          unfold cs
          rw [← List.map_drop, List.drop_drop]
          rfl
        rw [hwa]
        conv => whnf
        repeat (first | (refine And.intro ⟨by omega, by omega⟩ ?_; conv => whnf) | (refine And.intro (by omega) (And.intro rfl ?_); conv => whnf) | (refine And.intro rfl ?_; conv => whnf) | (refine And.intro (fun _ => ⟨by omega, by omega⟩) ?_; conv => whnf) | (refine And.intro (fun _ => by omega) (And.intro rfl ?_); conv => whnf) | (refine And.intro ⟨(by first | omega | (simp; omega)), (by first | omega | (simp; omega))⟩ ?_; conv => whnf) | (refine Exists.intro _ (And.intro rfl (And.intro (by first | omega | (simp; omega)) (And.intro ⟨rfl, rfl, rfl, rfl, rfl⟩ ?_))); conv => whnf) | (refine And.intro ⟨rfl, rfl⟩ (And.intro (by first | omega | (simp; omega)) ?_); conv => whnf) | (refine Exists.intro _ (And.intro rfl ?_); conv => whnf) | (refine And.intro (fun _ => ?_) (fun h => absurd h (by decide)); conv => whnf) | (refine And.intro (fun h => absurd h (by decide)) (fun _ => ?_); conv => whnf) | (refine .quiet (by kernel_rfl) ?_; conv => whnf))
        refine up (show t < l.length by omega) trivial ((wk_of [(0, .id 0), (1, .id 2)] rfl ⟨.base (.tree _ _ rfl rfl), .base (.tree _ _ rfl rfl), .base (.tree _ _ rfl rfl), (by first | exact .base (.own _ _ rfl) | exact .base (.nilown _ rfl) | exact .base (.trunc _ _ _ rfl)), (by first | exact .base (.own _ _ rfl) | exact .base (.nilown _ rfl) | exact .base (.trunc _ _ _ rfl)), trivial⟩ ⟨⟨_, rfl, (by first | exact .row _ _ _ _ _ _ _ rfl rfl | exact .lstrow _ _ _ _ _ _ _ rfl rfl | exact .nilrow _ _ _ _ _ rfl | exact .truncrow _ _ _ _ _ _ _ _ rfl (by omega) rfl)⟩, ⟨_, rfl, .que _ _ _ _ _ _ _ rfl (hdr1)⟩, trivial⟩))
    · have hge : (B t).D.length ≤ t := by
        have := of_decide_eq_false hd
        omega
      have hfin : B l.length = B t := by
        have := hst t hge (l.length - t)
        rwa [show t + (l.length - t) = l.length by omega] at this
      conv => whnf
      refine ⟨_, Wk.refl _, ?_⟩
      conv => whnf
      rw [hch, hfin]
      rfl

end Go.Proofs.Ytcabodhhdeecgaa
