import Derived.Test.YtmcgfkkagijcmaaCb
import Derived.Test.YtmcgfkkagijcmaaLc
namespace Go.Proofs.Ytmcgfkkagijcmaa
open Go.Own
set_option maxHeartbeats 1000000

theorem pre_iff {B : Nat → Nat → Nat} {r : Nat} : ∀ {k c : Nat}, Lead.pre B r k c = true ↔ ∃ j, j < k ∧ c = B r j
  | 0, c => by simp [Lead.pre]
  | k + 1, c => by
    rw [Lead.pre]
    split
    · rename_i h
      exact ⟨fun _ => ⟨k, Nat.lt_succ_self _, h⟩, fun _ => rfl⟩
    · rename_i h
      rw [pre_iff (k := k)]
      constructor
      · rintro ⟨j, hj, e⟩; exact ⟨j, by omega, e⟩
      · rintro ⟨j, hj, e⟩
        by_cases e2 : j = k
        · subst e2; exact absurd e h
        · exact ⟨j, by omega, e⟩
def lenR (g : List (List Int)) (r : Nat) : Nat := (g.getD r []).length
def entR (g : List (List Int)) (r k : Nat) : Nat := ((g.getD r []).getD k 0).toNat
theorem ent_eq {g : List (List Int)} (hg : InR g) {r k : Nat} (hr : r < g.length) (hk : k < lenR g r) : (g.getD r []).getD k 0 = (entR g r k : Int) ∧ entR g r k < g.length := by
  have := (hg _ (getD_mem (d := []) hr)).2 _ (getD_mem (d := 0) hk)
  unfold entR
  omega
theorem wf_wsh {g : List (List Int)} (hg : InR g) : ∀ (b i k : Nat), b ≤ g.length → i < g.length → Lead.wf (lenR g) (entR g) b i k = wsh g b i k
  | 0, i, k, _, hi => by
    rw [Lead.wf, wsh]
    have : Lead.pre (entR g) i (lenR g i) k = true ↔ stB g i k = true := by
      rw [pre_iff]
      unfold stB
      rw [decide_eq_true_eq]
      constructor
      · rintro ⟨j, hj, rfl⟩
        rw [← (ent_eq hg hi hj).1]
        exact getD_mem hj
      · intro h
        obtain ⟨j, hj, e⟩ := mem_getD (d := 0) h
        refine ⟨j, hj, ?_⟩
        have := (ent_eq hg hi hj).1
        omega
    cases h1 : Lead.pre (entR g) i (lenR g i) k with
    | true => exact (this.1 h1).symm
    | false =>
      cases h2 : stB g i k with
      | false => rfl
      | true => rw [this.2 h2] at h1; cases h1
  | b + 1, i, k, hb, hi => by
    rw [Lead.wf, wsh, wf_wsh hg b i k (by omega) hi, wf_wsh hg b i b (by omega) hi, wf_wsh hg b b k (by omega) (by omega)]
noncomputable def ldM (g : List (List Int)) : List (List Bool) := (List.range g.length).map (ldL g)

/-- How the graph lies. -/
theorem lies_of {S : Blocks} {w : World} {g : List (List Int)} (hg : InR g) {gb go : Nat} {cs : List Value} (hS : ∀ b, S b → b < w.heap.size) (hl : cs.length = g.length)
    (hc : ∀ (j : Nat) (c : Value), cs[j]? = some c → w.cell? ⟨gb, go + j, none⟩ = some c) (hr : ∀ (j : Nat) (c : Value) (r : List Int), cs[j]? = some c → g[j]? = some r → RelT S w c (encIs r)) :
    ∃ (A : Nat → Option Addr) (C RB RO : Nat → Nat), Lead.Lies w gb go g.length A (lenR g) C RB RO (entR g) := by
  have key : ∀ r, ∃ t : Option Addr × Nat × Nat × Nat, r < g.length → w.cell? ⟨gb, go + r, none⟩ = some (.slice t.1 (lenR g r) t.2.1) ∧ ∀ c, c < lenR g r → t.1 = some ⟨t.2.2.1, t.2.2.2, none⟩ ∧ w.cell? ⟨t.2.2.1, t.2.2.2 + c, none⟩ = some (.int .i64 (entR g r c : Nat)) := by
    intro r
    by_cases hrl : r < g.length
    · have hcr : cs[r]? = some cs[r] := List.getElem?_eq_getElem (by omega)
      have hgr : g[r]? = some (g.getD r []) := by rw [ngetD hrl, List.getElem?_eq_getElem hrl]
      have h1 := hc r _ hcr
      have h2 := hr r _ _ hcr hgr
      generalize cs[r] = c at h1 h2
      cases h2 with
      | sl _ _ _ _ _ h0 =>
        generalize hL : (g.getD r []).map encI = Lx at h0
        have hll : Lx.length = lenR g r := by rw [← hL, List.length_map]; rfl
        cases h0 with
        | lslnil =>
          refine ⟨(none, 0, 0, 0), fun _ => ⟨?_, fun c hc => ?_⟩⟩
          · rw [h1, ← hll]; rfl
          · rw [← hll] at hc; exact absurd hc (Nat.not_lt_zero _)
        | lslz _ a =>
          refine ⟨(some a, 0, 0, 0), fun _ => ⟨?_, fun c hc => ?_⟩⟩
          · rw [h1, ← hll]; rfl
          · rw [← hll] at hc; exact absurd hc (Nat.not_lt_zero _)
        | lsl _ _ b o cap ds hs hcap hE h1' hlen hcell hrel =>
          refine ⟨(some ⟨b, o, none⟩, cap, b, o), fun _ => ⟨?_, fun c hc => ⟨rfl, ?_⟩⟩⟩
          · rw [h1, hll]
          · have hfl : flat Lx = Lx := by
              rw [← hL]
              exact flat_one fun a ha => by
                obtain ⟨n, _, rfl⟩ := List.mem_map.1 ha
                rfl
            have hdc : ds[c]? = some (ds[c]'(by rw [hlen, hll]; omega)) := List.getElem?_eq_getElem _
            have hfc : (flat Lx)[c]? = some (encI ((g.getD r []).getD c 0)) := by
              rw [hfl, ← hL, List.getElem?_map, ngetD (show c < (g.getD r []).length from hc), List.getElem?_eq_getElem (show c < (g.getD r []).length from hc)]
              rfl
            have h3 := hrel c _ _ hdc hfc
            have h4 := hcell c _ hdc
            rw [(ent_eq hg hrl hc).1] at h3
            exact h4.trans (congrArg some (relT_int h3))
    · exact ⟨(none, 0, 0, 0), fun h => absurd h hrl⟩
  obtain ⟨t, ht⟩ := Classical.axiomOfChoice key
  exact ⟨fun r => (t r).1, fun r => (t r).2.1, fun r => (t r).2.2.1, fun r => (t r).2.2.2, fun r hr => (ht r hr).1, fun r hr c hc => (ht r hr).2 c hc, fun r hr c hc => (ent_eq hg hr hc).2⟩

theorem ldM_get {g : List (List Int)} {i k : Nat} (hg : InR g) (hi : i < g.length) (hk : k < g.length) : Lead.wf (lenR g) (entR g) g.length i k = ((ldM g).getD i []).getD k false := by
  rw [wf_wsh hg _ _ _ (Nat.le_refl _) hi, ← ldB_wsh hg]
  unfold ldM
  rw [List.getD_eq_getElem?_getD (l := List.map _ _), List.getElem?_map, List.getElem?_range hi]
  exact (ldL_get hk).symm
/-- The reference's Leads. -/
theorem leads_ok (g : List (List Int)) (hg : InR g) (hn : g.length ≤ 1000) : APureV Try.prog 16 [.sl 1 encIs [] g] (.sl 1 encBs [] (ldM g)) := by
  refine ⟨⟨Try.f16, Try.func16, rfl, by decide⟩, fun S w vs hS hT hv => ?_⟩
  match vs, hv with
  | [v], ⟨_, hv⟩ =>
    have h0 : RelT S w v (.sl 1 encIs [] g) := hv 0 v _ rfl rfl
    have hwalk : ∃ (ga : Option Addr) (gb go Gc : Nat) (A : Nat → Option Addr) (C RB RO : Nat → Nat), v = .slice ga g.length Gc ∧ (0 < g.length → ga = some ⟨gb, go, none⟩) ∧ Lead.Lies w gb go g.length A (lenR g) C RB RO (entR g) := by
      cases h0 with
      | sl _ _ _ _ _ h1 =>
        generalize hL : g.map encIs = Lx at h1
        have hll : Lx.length = g.length := by rw [← hL, List.length_map]
        cases h1 with
        | lslnil =>
          have : g.length = 0 := by rw [← hll]; rfl
          exact ⟨none, 0, 0, 0, fun _ => none, fun _ => 0, fun _ => 0, fun _ => 0, by rw [this], fun h => by omega, ⟨fun r hr => by omega, fun r hr => by omega, fun r hr => by omega⟩⟩
        | lslz _ a =>
          have : g.length = 0 := by rw [← hll]; rfl
          exact ⟨some a, 0, 0, 0, fun _ => none, fun _ => 0, fun _ => 0, fun _ => 0, by rw [this], fun h => by omega, ⟨fun r hr => by omega, fun r hr => by omega, fun r hr => by omega⟩⟩
        | lsl _ _ b o cap ds hs hcap hE h1' hlen hcell hrel =>
          have hfl : flat Lx = Lx := by
            rw [← hL]
            exact flat_one fun a ha => by
              obtain ⟨n, _, rfl⟩ := List.mem_map.1 ha
              rfl
          obtain ⟨A, C, RB, RO, h⟩ := lies_of (S := S) hg (gb := b) (go := o) (cs := ds) hS (by omega) hcell (fun j c r hj hr => hrel j c _ hj (by rw [hfl, ← hL, List.getElem?_map, hr]; rfl))
          exact ⟨some ⟨b, o, none⟩, b, o, cap, A, C, RB, RO, by rw [hll], fun _ => rfl, h⟩
    obtain ⟨ga, gb, go, Gc, A, C, RB, RO, rfl, hga, hLies⟩ := hwalk
    refine (Lead.lead_walk ga gb go g.length Gc A (lenR g) C RB RO (entR g) w hga hn (fun r hr => (hg _ (getD_mem hr)).1) hLies).mono ?_
    rintro e w' ⟨rfl, hO⟩
    have hsz := hO.size
    have hin : ∀ j, j < g.length → ∃ c : Array Value, w'.heap[w.heap.size + 1 + j]? = some (.cells c 4 (0, 0)) ∧ c.size = g.length ∧ ∀ i, i < g.length → c[i]? = some (.bool (((ldM g).getD j []).getD i false)) := fun j hj => by
      obtain ⟨c, h1, h2, h3⟩ := hO.done j hj
      exact ⟨c, h1, h2, fun i hi => (h3 i hi).trans (congrArg (fun b => some (Value.bool b)) (ldM_get hg hj hi))⟩
    have hml : (ldM g).length = g.length := by unfold ldM; rw [List.length_map, List.length_range]
    have hmr : ∀ j, j < g.length → ((ldM g).getD j []).length = g.length := fun j hj => by
      unfold ldM
      rw [List.getD_eq_getElem?_getD, List.getElem?_map, List.getElem?_range hj]
      show (ldL g j).length = _
      unfold ldL
      rw [List.length_map, List.length_range]
    refine ⟨[.slice (some ⟨w.heap.size, 0, none⟩) g.length g.length], _, fun b => S b ∨ (w.heap.size ≤ b ∧ b < w'.heap.size), rfl, rfl, ⟨rfl, fun j u r hj hr => ?_, ⟨hO.since.os, hO.since.tape, hO.since.output, hO.since.size, hO.since.block⟩, fun b hb => .inl hb, fun b hb => hb.imp id (·.1), fun b hb => ?_, fun i u b k h1 h2 => ?_⟩⟩
    · cases j with
      | succ j => simp at hj
      | zero =>
        simp only [List.getElem?_cons_zero, Option.some.injEq] at hj hr
        subst hj hr
        have hfl : flat ((ldM g).map encBs) = (ldM g).map encBs := flat_one fun a ha => by
          obtain ⟨n, _, rfl⟩ := List.mem_map.1 ha
          rfl
        have hcs : ∀ (j : Nat) (c : Value), ((List.range g.length).map fun j => Value.slice (some ⟨w.heap.size + 1 + j, 0, none⟩) g.length g.length)[j]? = some c → j < g.length ∧ c = .slice (some ⟨w.heap.size + 1 + j, 0, none⟩) g.length g.length := fun j c h => by
          have hj : j < g.length := by
            have := (List.getElem?_eq_some_iff.1 h).1
            simpa using this
          rw [List.getElem?_map, List.getElem?_range hj] at h
          exact ⟨hj, by simpa using h.symm⟩
        have := RelT.lsl (S := fun b => S b ∨ (w.heap.size ≤ b ∧ b < w'.heap.size)) (w := w') 1 ((ldM g).map encBs) w.heap.size 0 g.length ((List.range g.length).map fun j => Value.slice (some ⟨w.heap.size + 1 + j, 0, none⟩) g.length g.length)
          (.inr ⟨Nat.le_refl _, by omega⟩) (by rw [List.length_map, hml]; exact Nat.le_refl _) (fun x hx => by
            obtain ⟨y, _, rfl⟩ := List.mem_map.1 hx
            rfl) (by
            rw [hfl]
            intro a ha
            obtain ⟨y, _, rfl⟩ := List.mem_map.1 ha
            rfl) (by simp [hml]) (fun j c h => by
            obtain ⟨hj, rfl⟩ := hcs j c h
            have h1 := hO.top.cell hj
            rw [Nat.zero_add, h1]
            unfold Lead.top
            rw [if_pos hj]) (fun j c a h ha => by
            obtain ⟨hj, rfl⟩ := hcs j c h
            rw [hfl, List.getElem?_map] at ha
            have hgj : (ldM g)[j]? = some ((ldM g).getD j []) := by rw [ngetD (by omega), List.getElem?_eq_getElem (by omega)]
            rw [hgj] at ha
            cases ha
            obtain ⟨cc, k1, k2, k3⟩ := hin j hj
            have hrl := hmr j hj
            generalize (ldM g).getD j [] = row at *
            refine .sl _ _ _ _ _ ?_
            have hfr : flat (row.map encB) = row.map encB := flat_one fun a ha => by
              obtain ⟨n, _, rfl⟩ := List.mem_map.1 ha
              rfl
            have h2 := RelT.lsl (S := fun b => S b ∨ (w.heap.size ≤ b ∧ b < w'.heap.size)) (w := w') 1 (row.map encB) (w.heap.size + 1 + j) 0 g.length (row.map Value.bool)
              (.inr ⟨by omega, by omega⟩) (by rw [List.length_map, hrl]; exact Nat.le_refl _) (fun x hx => by
                obtain ⟨y, _, rfl⟩ := List.mem_map.1 hx
                rfl) (by
                rw [hfr]
                intro a ha
                obtain ⟨y, _, rfl⟩ := List.mem_map.1 ha
                rfl) (by simp) (fun i c h => by
                rw [List.getElem?_map, Option.map_eq_some_iff] at h
                obtain ⟨x, hx, rfl⟩ := h
                have hi : i < g.length := by
                  have := (List.getElem?_eq_some_iff.1 hx).1
                  omega
                have h4 := k3 i hi
                rw [List.getD_eq_getElem?_getD, hx] at h4
                show (w'.cell? ⟨w.heap.size + 1 + j, 0 + i, none⟩) = _
                rw [Nat.zero_add]
                simp [World.cell?, k1, h4]) (fun i c a h ha => by
                rw [List.getElem?_map, Option.map_eq_some_iff] at h
                obtain ⟨x, hx, rfl⟩ := h
                rw [hfr, List.getElem?_map, hx] at ha
                cases ha
                exact .bool x)
            rw [List.length_map, hrl] at h2
            exact h2)
        rw [List.length_map, hml] at this
        exact .sl _ _ _ _ _ this
    · rcases hb with hb | hb
      · exact Nat.lt_of_lt_of_le (hS b hb) hO.since.size
      · exact hb.2
    · cases i with
      | zero => simp at h2
      | succ i => simp at h2

end Go.Proofs.Ytmcgfkkagijcmaa

namespace Go.Proofs.Ytmcgfkkagijcmaa
open Go.Own

theorem nodup_inj {α : Type} {l : List α} (h : l.Nodup) {i j : Nat} (hi : i < l.length) (hj : j < l.length) (e : l[i] = l[j]) : i = j := by
  rcases Nat.lt_trichotomy i j with h1 | h1 | h1
  · exact absurd e (List.pairwise_iff_getElem.1 (List.nodup_iff_pairwise_ne.1 h) i j hi hj h1)
  · exact h1
  · exact absurd e.symm (List.pairwise_iff_getElem.1 (List.nodup_iff_pairwise_ne.1 h) j i hj hi h1)
theorem ite_iff {α : Type} {P Q : Prop} [Decidable P] [Decidable Q] (h : P ↔ Q) (a b : α) : (if P then a else b) = if Q then a else b := by
  by_cases hp : P
  · rw [if_pos hp, if_pos (h.1 hp)]
  · rw [if_neg hp, if_neg (fun hq => hp (h.2 hq))]
/-! ### The place of a group -/
def ix (G : List (List Int)) (m : Nat) : Nat := G.findIdx fun c => decide ((m : Int) ∈ c)
/-- What the order of the groups says. -/
theorem Grp.order {g : List (List Int)} (hg : InR g) {Q : List Bool} {L : List (List Int)} (h : Grp g (none0 g.length) L Q) : ∀ j, j < L.length → ∀ m : Nat, (m : Int) ∈ L.getD j [] → ∀ k, Lds g m k → ∃ j', j' ≤ j ∧ (k : Int) ∈ L.getD j' [] := by
  generalize hP0 : none0 g.length = P0 at h
  induction h with
  | nil => intro j hj; exact absurd hj (Nat.not_lt_zero _)
  | snoc h hi hr hmin ih =>
    rename_i Q L i
    subst hP0
    have hcv := h.cover hg
    intro j hj m hm k hk
    rw [List.length_append, List.length_singleton] at hj
    have hget : ∀ j, j < L.length → (L ++ [cs (cls g i)]).getD j [] = L.getD j [] := fun j hj => by
      rw [List.getD_eq_getElem?_getD, List.getD_eq_getElem?_getD, List.getElem?_append_left hj]
    have hlast : (L ++ [cs (cls g i)]).getD L.length [] = cs (cls g i) := by simp
    by_cases e : j < L.length
    · rw [hget j e] at hm
      obtain ⟨j', h1, h2⟩ := ih j e m hm k hk
      exact ⟨j', h1, by rw [hget j' (by omega)]; exact h2⟩
    · have hjl : j = L.length := by omega
      subst hjl
      rw [hlast, cs_mem] at hm
      obtain ⟨hm1, hm2⟩ := cls_mem.1 hm
      have hik : Lds g i k := by
        rcases hm2 with rfl | hm2
        · exact hk
        · exact lds_trans hm2.1 hk
      rcases ((rdy_iff hg).1 hr).2 k hik with h1 | h1 | h1
      · exact ⟨L.length, Nat.le_refl _, by rw [hlast, cs_mem]; exact cls_mem.2 ⟨(lds_lt hg hik).2, .inr ⟨hik, h1⟩⟩⟩
      · exact ⟨L.length, Nat.le_refl _, by rw [hlast, cs_mem]; exact cls_mem.2 ⟨(lds_lt hg hik).2, .inl h1⟩⟩
      · obtain ⟨c, hc, hkc⟩ := (hcv.at_ k).1 h1
        obtain ⟨j', hj', e⟩ := mem_getD (d := []) hc
        exact ⟨j', by omega, by rw [hget j' hj', e]; exact hkc⟩
structure Ixs (g G : List (List Int)) : Prop where
  lt : ∀ m, m < g.length → ix G m < G.length
  mem : ∀ m, m < g.length → G.getD (ix G m) [] = cs (cls g m)
  uniq : ∀ j m : Nat, j < G.length → (m : Int) ∈ G.getD j [] → ix G m = j
  asc : ∀ j, j < G.length → (G.getD j []).Pairwise (· < ·)
  rng : ∀ j, j < G.length → ∀ v ∈ G.getD j [], 0 ≤ v ∧ v < (g.length : Int)
  same : ∀ i k, i < g.length → k < g.length → (ix G i = ix G k ↔ i = k ∨ (Lds g i k ∧ Lds g k i))
  ord : ∀ i k, Lds g i k → ix G k ≤ ix G i
theorem gs_ixs {g : List (List Int)} (hg : InR g) : Ixs g (gs g) := by
  obtain ⟨Q, h1, h2⟩ := isGroups_gs hg
  obtain ⟨m1, n1⟩ := gs_cover hg
  have hor := h1.order hg
  generalize gs g = G at *
  have hex : ∀ m, m < g.length → ∃ c ∈ G, (m : Int) ∈ c := fun m hm => ⟨_, (m1 _).2 ⟨m, hm, rfl⟩, cs_mem.2 (cls_mem.2 ⟨hm, .inl rfl⟩)⟩
  have hlt : ∀ m, m < g.length → ix G m < G.length := fun m hm => by
    obtain ⟨c, hc, hmc⟩ := hex m hm
    exact List.findIdx_lt_length_of_exists ⟨c, hc, decide_eq_true hmc⟩
  have hin : ∀ m, m < g.length → (m : Int) ∈ G.getD (ix G m) [] := fun m hm => by
    have := List.findIdx_getElem (w := hlt m hm)
    rw [ngetD (hlt m hm)]
    exact of_decide_eq_true this
  have hcl : ∀ j m : Nat, j < G.length → (m : Int) ∈ G.getD j [] → m < g.length ∧ G.getD j [] = cs (cls g m) := fun j m hj hm => by
    obtain ⟨i, hi, e⟩ := (m1 _).1 (getD_mem (d := []) hj)
    rw [e, cs_mem] at hm
    exact ⟨(cls_mem.1 hm).1, by rw [e, cls_eq hg hm hi]⟩
  have huq : ∀ j m : Nat, j < G.length → (m : Int) ∈ G.getD j [] → ix G m = j := fun j m hj hm => by
    obtain ⟨hml, e⟩ := hcl j m hj hm
    obtain ⟨_, e2⟩ := hcl (ix G m) m (hlt m hml) (hin m hml)
    have e3 : G[ix G m]'(hlt m hml) = G[j] := by rw [← ngetD (d := []) (hlt m hml), ← ngetD (d := []) hj, e, e2]
    exact nodup_inj n1 _ _ e3
  refine ⟨hlt, fun m hm => (hcl _ m (hlt m hm) (hin m hm)).2, huq, fun j hj => ?_, fun j hj v hv => ?_, fun i k hi hk => ?_, fun i k hl => ?_⟩
  · obtain ⟨i, _, e⟩ := (m1 _).1 (getD_mem (d := []) hj)
    rw [e]
    exact cs_asc (cls_asc _ _)
  · obtain ⟨i, _, e⟩ := (m1 _).1 (getD_mem (d := []) hj)
    rw [e] at hv
    unfold cs at hv
    obtain ⟨k, hk, rfl⟩ := List.mem_map.1 hv
    exact ⟨Int.natCast_nonneg k, Int.ofNat_lt.2 (cls_mem.1 hk).1⟩
  · constructor
    · intro e
      have h3 := hin k hk
      rw [← e, (hcl _ i (hlt i hi) (hin i hi)).2, cs_mem] at h3
      rcases (cls_mem.1 h3).2 with h4 | h4
      · exact .inl h4.symm
      · exact .inr h4
    · intro h
      refine huq (ix G k) i (hlt k hk) ?_
      rw [(hcl _ k (hlt k hk) (hin k hk)).2, cs_mem]
      refine cls_mem.2 ⟨hi, ?_⟩
      rcases h with h | h
      · exact .inl h
      · exact .inr ⟨h.2, h.1⟩
  · obtain ⟨hi, hk⟩ := lds_lt hg hl
    obtain ⟨j', h3, h4⟩ := hor (ix G i) (hlt i hi) i (hin i hi) k hl
    have hj' : j' < G.length := Nat.lt_of_le_of_lt h3 (hlt i hi)
    rw [huq j' k hj' h4]
    exact h3
theorem lds_head {g : List (List Int)} {i k : Nat} (h : Lds g i k) : Stp g i k ∨ ∃ j, Stp g i j ∧ Lds g j k := by
  induction h with
  | one s => exact .inl s
  | more h s ih =>
    rcases ih with ih | ⟨j, h1, h2⟩
    · exact .inr ⟨_, ih, .one s⟩
    · exact .inr ⟨j, h1, .more h2 s⟩
/-- A group is a circle if one of its issues leads to itself. -/
theorem circ_iff {g : List (List Int)} (hg : InR g) {m : Nat} (hm : m < g.length) : circB g (cs (cls g m)) = ldB g m m := by
  have hmm : m ∈ cls g m := cls_mem.2 ⟨hm, .inl rfl⟩
  have hlen : (cs (cls g m)).length = (cls g m).length := by unfold cs; rw [List.length_map]
  unfold circB
  by_cases h1 : (cs (cls g m)).length = 1
  · rw [if_pos h1]
    have hc : cls g m = [m] := by
      rw [hlen] at h1
      obtain ⟨a, ha⟩ := List.length_eq_one_iff.1 h1
      rw [ha] at hmm ⊢
      rw [List.mem_singleton] at hmm
      rw [hmm]
    rw [hc]
    show (decide ((0 : Int) ≤ (m : Int)) && decide ((m : Int) < (g.length : Int)) && decide ((m : Int) ∈ g.getD (m : Int).toNat [])) = _
    rw [decide_eq_true (by omega : (0 : Int) ≤ (m : Int)), decide_eq_true (by omega : (m : Int) < (g.length : Int)), Int.toNat_natCast]
    show stB g m m = _
    cases hs : stB g m m with
    | true => exact (ldB_iff.2 (.one (of_decide_eq_true (p := (m : Int) ∈ g.getD m []) hs))).symm
    | false =>
      cases hl : ldB g m m with
      | false => rfl
      | true =>
        rcases lds_head (ldB_iff.1 hl) with h2 | ⟨j, h2, h3⟩
        · rw [show stB g m m = true from decide_eq_true (p := (m : Int) ∈ g.getD m []) h2] at hs
          cases hs
        · have hj : j ∈ cls g m := cls_mem.2 ⟨(lds_lt hg h3).1, .inr ⟨.one h2, h3⟩⟩
          rw [hc, List.mem_singleton] at hj
          subst hj
          rw [show stB g j j = true from decide_eq_true (p := (j : Int) ∈ g.getD j []) h2] at hs
          cases hs
  · rw [if_neg h1]
    have h2 : 1 < (cs (cls g m)).length := by
      have := List.length_pos_of_mem hmm
      omega
    rw [decide_eq_true h2]
    have h3 : ∃ k ∈ cls g m, k ≠ m := by
      refine Classical.byContradiction fun hn => ?_
      have hall : ∀ a ∈ cls g m, a ∈ [m] := fun a ha => List.mem_singleton.2 (Classical.byContradiction fun e => hn ⟨a, ha, e⟩)
      have := nodup_le (List.nodup_iff_pairwise_ne.2 ((cls_asc g m).imp fun h => by omega)) hall
      rw [List.length_singleton] at this
      omega
    obtain ⟨k, hk, hne⟩ := h3
    rcases (cls_mem.1 hk).2 with h4 | h4
    · exact absurd h4 hne
    · exact (ldB_iff.2 (lds_trans h4.1 h4.2)).symm

/-! ### The law's own list of places -/
/-- The place of each issue, when the groups before i, and k issues of group i, are told. -/
def atL (n : Nat) (G : List (List Int)) (i k : Nat) : List Int := (List.range n).map fun m => if ix G m < i ∨ (ix G m = i ∧ (m : Int) ∈ (G.getD i []).take k) then (ix G m : Int) else -1
theorem atL_get {n : Nat} {G : List (List Int)} {i k m : Nat} (hm : m < n) : (atL n G i k).getD m 0 = if ix G m < i ∨ (ix G m = i ∧ (m : Int) ∈ (G.getD i []).take k) then (ix G m : Int) else -1 := by
  unfold atL
  rw [List.getD_eq_getElem?_getD, List.getElem?_map, List.getElem?_range hm]
  rfl
theorem atL_len (n : Nat) (G : List (List Int)) (i k : Nat) : (atL n G i k).length = n := by unfold atL; rw [List.length_map, List.length_range]
theorem atL_zero (n : Nat) (G : List (List Int)) : atL n G 0 0 = List.replicate n (-1) := by
  refine List.ext_getElem (by rw [atL_len, List.length_replicate]) fun k h1 h2 => ?_
  rw [List.getElem_replicate, ← ngetD (d := 0) h1, atL_get (by rw [atL_len] at h1; exact h1), if_neg (by simp)]
theorem atL_step {g G : List (List Int)} (h : Ixs g G) {i k : Nat} (hi : i < G.length) (hk : k < (G.getD i []).length) {v : Nat} (hv : (G.getD i []).getD k 0 = (v : Int)) :
    (atL g.length G i k).getD v 0 = -1 ∧ atL g.length G i (k + 1) = (atL g.length G i k).set v (i : Int) := by
  have hmem : (v : Int) ∈ G.getD i [] := by rw [← hv]; exact getD_mem hk
  have hix := h.uniq i v hi hmem
  have hvl : v < g.length := by have := (h.rng i hi _ hmem).2; omega
  have hnd : (G.getD i []).Nodup := List.nodup_iff_pairwise_ne.2 ((h.asc i hi).imp fun h => by omega)
  have hnot : (v : Int) ∉ (G.getD i []).take k := fun hin => by
    obtain ⟨j, hj, e⟩ := mem_getD (d := 0) hin
    rw [List.length_take] at hj
    rw [List.getD_eq_getElem?_getD, List.getElem?_take, if_pos (by omega), ← List.getD_eq_getElem?_getD] at e
    have hjl : j < (G.getD i []).length := by omega
    rw [ngetD hjl] at e
    rw [ngetD hk] at hv
    have := nodup_inj hnd hjl hk (e.trans hv.symm)
    omega
  refine ⟨by rw [atL_get hvl, hix, if_neg (fun hh => hh.elim (fun h1 => by omega) (fun h1 => hnot h1.2))], ?_⟩
  refine List.ext_getElem (by rw [List.length_set, atL_len, atL_len]) fun m h1 h2 => ?_
  rw [atL_len] at h1
  rw [List.getElem_set, ← ngetD (d := 0), ← ngetD (d := 0), atL_get h1, atL_get h1, take_getD (d := 0) hk, hv]
  by_cases e : v = m
  · subst e
    rw [if_pos rfl, hix, if_pos (.inr ⟨rfl, List.mem_append_right _ (by simp)⟩)]
  · rw [if_neg e]
    refine ite_iff (or_congr Iff.rfl (and_congr Iff.rfl ⟨fun hh => ?_, fun hh => List.mem_append_left _ hh⟩)) _ _
    rcases List.mem_append.1 hh with h3 | h3
    · exact h3
    · rw [List.mem_singleton] at h3; omega
theorem atL_next {g G : List (List Int)} (h : Ixs g G) {i : Nat} (hi : i < G.length) : atL g.length G i (G.getD i []).length = atL g.length G (i + 1) 0 := by
  refine List.ext_getElem (by rw [atL_len, atL_len]) fun m h1 h2 => ?_
  rw [atL_len] at h1
  rw [← ngetD (d := 0), ← ngetD (d := 0), atL_get h1, atL_get h1, List.take_length]
  refine ite_iff ⟨fun hh => ?_, fun hh => ?_⟩ _ _
  · rcases hh with h3 | ⟨h3, _⟩
    · exact .inl (by omega)
    · exact .inl (by omega)
  · rcases hh with h3 | ⟨_, h3⟩
    · by_cases e : ix G m = i
      · refine .inr ⟨e, ?_⟩
        rw [← e, h.mem m h1, cs_mem]
        exact cls_mem.2 ⟨h1, .inl rfl⟩
      · exact .inl (by omega)
    · simp at h3
theorem atL_end {g G : List (List Int)} (h : Ixs g G) {m : Nat} (hm : m < g.length) : (atL g.length G G.length 0).getD m 0 = (ix G m : Int) := by
  rw [atL_get hm, if_pos (.inl (h.lt m hm))]

end Go.Proofs.Ytmcgfkkagijcmaa

namespace Go.Proofs.Ytmcgfkkagijcmaa
open Go.Own
set_option maxHeartbeats 4000000
set_option maxRecDepth 100000

def aL (n i : Nat) : List Int := (List.range n).map fun m => if m < i then -1 else 0
theorem aL_len (n i : Nat) : (aL n i).length = n := by unfold aL; rw [List.length_map, List.length_range]
theorem aL_zero (n : Nat) : aL n 0 = List.replicate n 0 := by
  unfold aL
  refine List.ext_getElem (by simp) fun k h1 h2 => by simp
theorem aL_succ {n i : Nat} : aL n (i + 1) = (aL n i).set i (-1) := by
  refine List.ext_getElem (by simp [aL]) fun k h1 h2 => ?_
  rw [List.getElem_set]
  simp only [aL, List.getElem_map, List.getElem_range]
  by_cases e : i = k
  · subst e; simp
  · rw [if_neg e]
    by_cases e2 : k < i
    · rw [if_pos e2, if_pos (by omega)]
    · rw [if_neg e2, if_neg (by omega)]
theorem aL_end (n : Nat) (G : List (List Int)) : aL n n = atL n G 0 0 := by
  rw [atL_zero]
  unfold aL
  refine List.ext_getElem (by simp) fun k h1 h2 => ?_
  have : k < n := by simpa using h1
  simp [this]

theorem law_groups (l : List Ind) (hl : l.length ≤ 9223372036854775807) (hx : ∀ x ∈ l, InX x) : APureV Try.prog 4 [encXs l] (.bool true) := by
  have hfew := few_ok l 10 hl hx
  refine apure_of (C := cx 241 [0, 2, 3, 4, 5, 6, 7, 8, 9, 10, 11, 12, 13, 14, 15, 16, 20, 33, 53, 60, 72, 94, 98, 107, 141, 146, 156, 182, 186, 239]) (cxOk _ _) Try.func4 rfl (by decide) rfl (by exact Nat.le_of_ble_eq_true rfl) (by decide) ?_
  conv => whnf
  repeat (first | (refine And.intro ⟨by omega, by omega⟩ ?_; conv => whnf) | (refine And.intro (by omega) (And.intro rfl ?_); conv => whnf) | (refine And.intro rfl ?_; conv => whnf) | (refine And.intro (fun _ => ⟨by omega, by omega⟩) ?_; conv => whnf) | (refine And.intro (fun _ => by omega) (And.intro rfl ?_); conv => whnf) | (refine And.intro ⟨(by first | omega | (simp; omega)), (by first | omega | (simp; omega))⟩ ?_; conv => whnf) | (refine Exists.intro _ (And.intro rfl (And.intro (by first | omega | (simp; omega)) (And.intro ⟨rfl, rfl, rfl, rfl, rfl⟩ ?_))); conv => whnf) | (refine And.intro ⟨rfl, rfl⟩ (And.intro (by first | omega | (simp; omega)) ?_); conv => whnf) | (refine Exists.intro _ (And.intro rfl ?_); conv => whnf) | (refine And.intro (fun _ => ?_) (fun h => absurd h (by decide)); conv => whnf) | (refine And.intro (fun h => absurd h (by decide)) (fun _ => ?_); conv => whnf) | (refine .quiet (by kernel_rfl) ?_; conv => whnf))
  refine .one _ _ _ (fun _ => small_ok) (by repeat (first | exact .nil | (apply BorL.cons; first | exact lS rfl | exact lR rfl | exact lM rfl rfl | exact lL rfl | exact lX rfl | exact lN | exact lNl | exact lSm rfl | exact lIm rfl | exact lP rfl | exact lQ rfl | exact lB rfl rfl rfl))) (by first | exact .inl rfl | exact .inr (by repeat (first | exact flats_nil | refine flats_cons (by first | exact flat_val _ rfl | exact flat_row (fun _ => rfl) | exact flat_lst (fun _ => rfl)) ?_))) (by first | exact .inr rfl | exact .inl rfl) ?_
  conv => whnf
  repeat (first | (refine And.intro ⟨by omega, by omega⟩ ?_; conv => whnf) | (refine And.intro (by omega) (And.intro rfl ?_); conv => whnf) | (refine And.intro rfl ?_; conv => whnf) | (refine And.intro (fun _ => ⟨by omega, by omega⟩) ?_; conv => whnf) | (refine And.intro (fun _ => by omega) (And.intro rfl ?_); conv => whnf) | (refine And.intro ⟨(by first | omega | (simp; omega)), (by first | omega | (simp; omega))⟩ ?_; conv => whnf) | (refine Exists.intro _ (And.intro rfl (And.intro (by first | omega | (simp; omega)) (And.intro ⟨rfl, rfl, rfl, rfl, rfl⟩ ?_))); conv => whnf) | (refine And.intro ⟨rfl, rfl⟩ (And.intro (by first | omega | (simp; omega)) ?_); conv => whnf) | (refine Exists.intro _ (And.intro rfl ?_); conv => whnf) | (refine And.intro (fun _ => ?_) (fun h => absurd h (by decide)); conv => whnf) | (refine And.intro (fun h => absurd h (by decide)) (fun _ => ?_); conv => whnf) | (refine .quiet (by kernel_rfl) ?_; conv => whnf))
  refine .one _ _ _ (fun _ => hfew) (by repeat (first | exact .nil | (apply BorL.cons; first | exact lS rfl | exact lR rfl | exact lM rfl rfl | exact lL rfl | exact lX rfl | exact lN | exact lNl | exact lSm rfl | exact lIm rfl | exact lP rfl | exact lQ rfl | exact lB rfl rfl rfl))) (by first | exact .inl rfl | exact .inr (by repeat (first | exact flats_nil | refine flats_cons (by first | exact flat_val _ rfl | exact flat_row (fun _ => rfl) | exact flat_lst (fun _ => rfl)) ?_))) (by first | exact .inr rfl | exact .inl rfl) ?_
  conv => whnf
  cases hf1 : fewB l 10 with
  | false =>
    conv => whnf
    repeat (first | (refine And.intro ⟨by omega, by omega⟩ ?_; conv => whnf) | (refine And.intro (by omega) (And.intro rfl ?_); conv => whnf) | (refine And.intro rfl ?_; conv => whnf) | (refine And.intro (fun _ => ⟨by omega, by omega⟩) ?_; conv => whnf) | (refine And.intro (fun _ => by omega) (And.intro rfl ?_); conv => whnf) | (refine And.intro ⟨(by first | omega | (simp; omega)), (by first | omega | (simp; omega))⟩ ?_; conv => whnf) | (refine Exists.intro _ (And.intro rfl (And.intro (by first | omega | (simp; omega)) (And.intro ⟨rfl, rfl, rfl, rfl, rfl⟩ ?_))); conv => whnf) | (refine And.intro ⟨rfl, rfl⟩ (And.intro (by first | omega | (simp; omega)) ?_); conv => whnf) | (refine Exists.intro _ (And.intro rfl ?_); conv => whnf) | (refine And.intro (fun _ => ?_) (fun h => absurd h (by decide)); conv => whnf) | (refine And.intro (fun h => absurd h (by decide)) (fun _ => ?_); conv => whnf) | (refine .quiet (by kernel_rfl) ?_; conv => whnf))
    rfl
  | true =>
  unfold fewB at hf1
  rw [Bool.and_eq_true, decide_eq_true_eq, List.all_eq_true] at hf1
  obtain ⟨hl10, hfx⟩ := hf1
  have hokx : ∀ y ∈ l, OkX y := fun y hy => few_okX (hx y hy) (hfx y hy)
  have hg1 := graph2_ok l hl (fun _ => hokx)
  have hg2 := groups2_ok l hl (fun _ => hokx)
  by_cases h0 : errG l = 0
  · have hi := gl_in l (by omega)
    have hgl := gl_len l
    have hix := gs_ixs hi
    have hgk := gl_ok l (by omega)
    have hgs := gs_len hi
    have hld := leads_ok (gl l) hi (by omega)
    have hcirc := fun m hm => circ_iff hi (m := m) hm
    rw [show glE l = gl l by unfold glE; rw [if_pos h0], h0] at hg1
    rw [show gsE l = gs (gl l) by unfold gsE; rw [if_pos h0], h0] at hg2
    generalize gs (gl l) = G at *
    generalize gl l = g at *
    obtain ⟨hGl, hGc⟩ := hgs
    have hml : ∀ i, i < g.length → (ldM g).getD i [] = ldL g i := fun i hi => by
      unfold ldM
      rw [List.getD_eq_getElem?_getD, List.getElem?_map, List.getElem?_range hi]; rfl
    have hmn : (ldM g).length = g.length := by unfold ldM; rw [List.length_map, List.length_range]
    have hll : ∀ i, (ldL g i).length = g.length := fun i => by unfold ldL; rw [List.length_map, List.length_range]
    conv => whnf
    repeat (first | (refine And.intro ⟨by omega, by omega⟩ ?_; conv => whnf) | (refine And.intro (by omega) (And.intro rfl ?_); conv => whnf) | (refine And.intro rfl ?_; conv => whnf) | (refine And.intro (fun _ => ⟨by omega, by omega⟩) ?_; conv => whnf) | (refine And.intro (fun _ => by omega) (And.intro rfl ?_); conv => whnf) | (refine And.intro ⟨(by first | omega | (simp; omega)), (by first | omega | (simp; omega))⟩ ?_; conv => whnf) | (refine Exists.intro _ (And.intro rfl (And.intro (by first | omega | (simp; omega)) (And.intro ⟨rfl, rfl, rfl, rfl, rfl⟩ ?_))); conv => whnf) | (refine And.intro ⟨rfl, rfl⟩ (And.intro (by first | omega | (simp; omega)) ?_); conv => whnf) | (refine Exists.intro _ (And.intro rfl ?_); conv => whnf) | (refine And.intro (fun _ => ?_) (fun h => absurd h (by decide)); conv => whnf) | (refine And.intro (fun h => absurd h (by decide)) (fun _ => ?_); conv => whnf) | (refine .quiet (by kernel_rfl) ?_; conv => whnf))
    refine .one _ _ _ (fun _ => hg1) (by repeat (first | exact .nil | (apply BorL.cons; first | exact lS rfl | exact lR rfl | exact lM rfl rfl | exact lL rfl | exact lX rfl | exact lN | exact lNl | exact lSm rfl | exact lIm rfl | exact lP rfl | exact lQ rfl | exact lB rfl rfl rfl))) (by first | exact .inl rfl | exact .inr (by repeat (first | exact flats_nil | refine flats_cons (by first | exact flat_val _ rfl | exact flat_row (fun _ => rfl) | exact flat_lst (fun _ => rfl)) ?_))) (by first | exact .inr rfl | exact .inl rfl) ?_
    conv => whnf
    repeat (first | (refine And.intro ⟨by omega, by omega⟩ ?_; conv => whnf) | (refine And.intro (by omega) (And.intro rfl ?_); conv => whnf) | (refine And.intro rfl ?_; conv => whnf) | (refine And.intro (fun _ => ⟨by omega, by omega⟩) ?_; conv => whnf) | (refine And.intro (fun _ => by omega) (And.intro rfl ?_); conv => whnf) | (refine And.intro ⟨(by first | omega | (simp; omega)), (by first | omega | (simp; omega))⟩ ?_; conv => whnf) | (refine Exists.intro _ (And.intro rfl (And.intro (by first | omega | (simp; omega)) (And.intro ⟨rfl, rfl, rfl, rfl, rfl⟩ ?_))); conv => whnf) | (refine And.intro ⟨rfl, rfl⟩ (And.intro (by first | omega | (simp; omega)) ?_); conv => whnf) | (refine Exists.intro _ (And.intro rfl ?_); conv => whnf) | (refine And.intro (fun _ => ?_) (fun h => absurd h (by decide)); conv => whnf) | (refine And.intro (fun h => absurd h (by decide)) (fun _ => ?_); conv => whnf) | (refine .quiet (by kernel_rfl) ?_; conv => whnf))
    refine .one _ _ _ (fun _ => hg2) (by repeat (first | exact .nil | (apply BorL.cons; first | exact lS rfl | exact lR rfl | exact lM rfl rfl | exact lL rfl | exact lX rfl | exact lN | exact lNl | exact lSm rfl | exact lIm rfl | exact lP rfl | exact lQ rfl | exact lB rfl rfl rfl))) (by first | exact .inl rfl | exact .inr (by repeat (first | exact flats_nil | refine flats_cons (by first | exact flat_val _ rfl | exact flat_row (fun _ => rfl) | exact flat_lst (fun _ => rfl)) ?_))) (by first | exact .inr rfl | exact .inl rfl) ?_
    conv => whnf
    repeat (first | (refine And.intro ⟨by omega, by omega⟩ ?_; conv => whnf) | (refine And.intro (by omega) (And.intro rfl ?_); conv => whnf) | (refine And.intro rfl ?_; conv => whnf) | (refine And.intro (fun _ => ⟨by omega, by omega⟩) ?_; conv => whnf) | (refine And.intro (fun _ => by omega) (And.intro rfl ?_); conv => whnf) | (refine And.intro ⟨(by first | omega | (simp; omega)), (by first | omega | (simp; omega))⟩ ?_; conv => whnf) | (refine Exists.intro _ (And.intro rfl (And.intro (by first | omega | (simp; omega)) (And.intro ⟨rfl, rfl, rfl, rfl, rfl⟩ ?_))); conv => whnf) | (refine And.intro ⟨rfl, rfl⟩ (And.intro (by first | omega | (simp; omega)) ?_); conv => whnf) | (refine Exists.intro _ (And.intro rfl ?_); conv => whnf) | (refine And.intro (fun _ => ?_) (fun h => absurd h (by decide)); conv => whnf) | (refine And.intro (fun h => absurd h (by decide)) (fun _ => ?_); conv => whnf) | (refine .quiet (by kernel_rfl) ?_; conv => whnf))
    have hb1 : (!decide ((0 : Int) = 0) || !decide ((g.length : Int) = (l.length : Int))) = false := by
      rw [decide_eq_true (by omega : (g.length : Int) = (l.length : Int))]; rfl
    refine ⟨fun h => (by rw [hb1] at h; cases h), fun _ => ?_⟩
    conv => whnf
    repeat (first | (refine And.intro ⟨by omega, by omega⟩ ?_; conv => whnf) | (refine And.intro (by omega) (And.intro rfl ?_); conv => whnf) | (refine And.intro rfl ?_; conv => whnf) | (refine And.intro (fun _ => ⟨by omega, by omega⟩) ?_; conv => whnf) | (refine And.intro (fun _ => by omega) (And.intro rfl ?_); conv => whnf) | (refine And.intro ⟨(by first | omega | (simp; omega)), (by first | omega | (simp; omega))⟩ ?_; conv => whnf) | (refine Exists.intro _ (And.intro rfl (And.intro (by first | omega | (simp; omega)) (And.intro ⟨rfl, rfl, rfl, rfl, rfl⟩ ?_))); conv => whnf) | (refine And.intro ⟨rfl, rfl⟩ (And.intro (by first | omega | (simp; omega)) ?_); conv => whnf) | (refine Exists.intro _ (And.intro rfl ?_); conv => whnf) | (refine And.intro (fun _ => ?_) (fun h => absurd h (by decide)); conv => whnf) | (refine And.intro (fun h => absurd h (by decide)) (fun _ => ?_); conv => whnf) | (refine .quiet (by kernel_rfl) ?_; conv => whnf))
    have ha0 := aL_zero g.length
    have has := fun i => @aL_succ g.length i
    have hal := aL_len g.length
    have hae := aL_end g.length G
    generalize hA : aL g.length = A at *
    refine loop_up (cxOk _ _) g.length (fun _ => True) (fun i => ⟨[(0, encXs l), (3, .bool true), (4, .sl 1 encIs [] g), (6, .sl 1 encIs [] G), (8, .own 0), (9, .int .i64 (i : Nat))], [(0, .row 3 1 encI 0 (A i))], 1⟩) trivial (by rw [ha0, hgl]; exact (wk_of [(0, .id 0)] rfl ⟨.base (.tree _ _ rfl rfl), .base (.tree _ _ rfl rfl), .base (.tree _ _ rfl rfl), .base (.tree _ _ rfl rfl), (by first | exact .base (.own _ _ rfl) | exact .base (.nilown _ rfl) | exact .base (.trunc _ _ _ rfl)), .base (.tree _ _ rfl rfl), trivial⟩ ⟨⟨_, rfl, (by first | exact .row _ _ _ _ _ _ _ rfl (by rw [Int.toNat_natCast]; exact (List.map_replicate (f := encI)).symm) | exact .lstrow _ _ _ _ _ _ _ rfl (by rw [Int.toNat_natCast]; exact (List.map_replicate (f := encI)).symm) | exact .nilrow _ _ _ _ _ (by rw [Int.toNat_natCast]; exact (List.map_replicate (f := encI)).symm) | exact .truncrow _ _ _ _ _ _ _ _ rfl (by omega) (by rw [Int.toNat_natCast]; exact (List.map_replicate (f := encI)).symm))⟩, trivial⟩)) ?_
    intro i hi0 _
    conv => whnf
    refine ⟨fun hc1 => ?_, fun hc1 => ?_⟩
    · have hc1 := of_decide_eq_true hc1
      have hlt : i < g.length := by omega
      have hei : (i : Int).toNat = i := Int.toNat_natCast i
      have hrow := hi _ (getD_mem (d := []) hlt)
      have hali := hal i
      have hasi := has i
      conv => whnf
      repeat (first | (refine And.intro ⟨by omega, by omega⟩ ?_; conv => whnf) | (refine And.intro (by omega) (And.intro rfl ?_); conv => whnf) | (refine And.intro rfl ?_; conv => whnf) | (refine And.intro (fun _ => ⟨by omega, by omega⟩) ?_; conv => whnf) | (refine And.intro (fun _ => by omega) (And.intro rfl ?_); conv => whnf) | (refine And.intro ⟨(by first | omega | (simp; omega)), (by first | omega | (simp; omega))⟩ ?_; conv => whnf) | (refine Exists.intro _ (And.intro rfl (And.intro (by first | omega | (simp; omega)) (And.intro ⟨rfl, rfl, rfl, rfl, rfl⟩ ?_))); conv => whnf) | (refine And.intro ⟨rfl, rfl⟩ (And.intro (by first | omega | (simp; omega)) ?_); conv => whnf) | (refine Exists.intro _ (And.intro rfl ?_); conv => whnf) | (refine And.intro (fun _ => ?_) (fun h => absurd h (by decide)); conv => whnf) | (refine And.intro (fun h => absurd h (by decide)) (fun _ => ?_); conv => whnf) | (refine .quiet (by kernel_rfl) ?_; conv => whnf))
      rw [hei]
      refine loop_up (cxOk _ _) (g.getD i []).length (fun _ => True) (fun k => ⟨[(0, encXs l), (3, .bool true), (4, .sl 1 encIs [] g), (6, .sl 1 encIs [] G), (8, .own 0), (9, .int .i64 (i : Nat)), (10, .int .i64 (k : Nat))], [(0, .row 3 1 encI 0 (A (i + 1)))], 1⟩) trivial ((wk_of [(0, .id 0)] rfl ⟨.base (.tree _ _ rfl rfl), .base (.tree _ _ rfl rfl), .base (.tree _ _ rfl rfl), .base (.tree _ _ rfl rfl), (by first | exact .base (.own _ _ rfl) | exact .base (.nilown _ rfl) | exact .base (.trunc _ _ _ rfl)), .base (.tree _ _ rfl rfl), .base (.tree _ _ rfl rfl), trivial⟩ ⟨⟨_, rfl, (by first | exact .row _ _ _ _ _ _ _ rfl (hasi.symm) | exact .lstrow _ _ _ _ _ _ _ rfl (hasi.symm) | exact .nilrow _ _ _ _ _ (hasi.symm) | exact .truncrow _ _ _ _ _ _ _ _ rfl (by omega) (hasi.symm))⟩, trivial⟩)) ?_
      intro k hk _
      conv => whnf
      repeat (first | (refine And.intro ⟨by omega, by omega⟩ ?_; conv => whnf) | (refine And.intro (by omega) (And.intro rfl ?_); conv => whnf) | (refine And.intro rfl ?_; conv => whnf) | (refine And.intro (fun _ => ⟨by omega, by omega⟩) ?_; conv => whnf) | (refine And.intro (fun _ => by omega) (And.intro rfl ?_); conv => whnf) | (refine And.intro ⟨(by first | omega | (simp; omega)), (by first | omega | (simp; omega))⟩ ?_; conv => whnf) | (refine Exists.intro _ (And.intro rfl (And.intro (by first | omega | (simp; omega)) (And.intro ⟨rfl, rfl, rfl, rfl, rfl⟩ ?_))); conv => whnf) | (refine And.intro ⟨rfl, rfl⟩ (And.intro (by first | omega | (simp; omega)) ?_); conv => whnf) | (refine Exists.intro _ (And.intro rfl ?_); conv => whnf) | (refine And.intro (fun _ => ?_) (fun h => absurd h (by decide)); conv => whnf) | (refine And.intro (fun h => absurd h (by decide)) (fun _ => ?_); conv => whnf) | (refine .quiet (by kernel_rfl) ?_; conv => whnf))
      rw [hei]
      conv => whnf
      refine ⟨fun hc2 => ?_, fun hc2 => ?_⟩
      · have hc2 := of_decide_eq_true hc2
        have hlk : k < (g.getD i []).length := by omega
        have hek : (k : Int).toNat = k := Int.toNat_natCast k
        have hv := hrow.2 _ (getD_mem (d := 0) hlk)
        conv => whnf
        repeat (first | (refine And.intro ⟨by omega, by omega⟩ ?_; conv => whnf) | (refine And.intro (by omega) (And.intro rfl ?_); conv => whnf) | (refine And.intro rfl ?_; conv => whnf) | (refine And.intro (fun _ => ⟨by omega, by omega⟩) ?_; conv => whnf) | (refine And.intro (fun _ => by omega) (And.intro rfl ?_); conv => whnf) | (refine And.intro ⟨(by first | omega | (simp; omega)), (by first | omega | (simp; omega))⟩ ?_; conv => whnf) | (refine Exists.intro _ (And.intro rfl (And.intro (by first | omega | (simp; omega)) (And.intro ⟨rfl, rfl, rfl, rfl, rfl⟩ ?_))); conv => whnf) | (refine And.intro ⟨rfl, rfl⟩ (And.intro (by first | omega | (simp; omega)) ?_); conv => whnf) | (refine Exists.intro _ (And.intro rfl ?_); conv => whnf) | (refine And.intro (fun _ => ?_) (fun h => absurd h (by decide)); conv => whnf) | (refine And.intro (fun h => absurd h (by decide)) (fun _ => ?_); conv => whnf) | (refine .quiet (by kernel_rfl) ?_; conv => whnf))
        rw [hei]
        conv => whnf
        repeat (first | (refine And.intro ⟨by omega, by omega⟩ ?_; conv => whnf) | (refine And.intro (by omega) (And.intro rfl ?_); conv => whnf) | (refine And.intro rfl ?_; conv => whnf) | (refine And.intro (fun _ => ⟨by omega, by omega⟩) ?_; conv => whnf) | (refine And.intro (fun _ => by omega) (And.intro rfl ?_); conv => whnf) | (refine And.intro ⟨(by first | omega | (simp; omega)), (by first | omega | (simp; omega))⟩ ?_; conv => whnf) | (refine Exists.intro _ (And.intro rfl (And.intro (by first | omega | (simp; omega)) (And.intro ⟨rfl, rfl, rfl, rfl, rfl⟩ ?_))); conv => whnf) | (refine And.intro ⟨rfl, rfl⟩ (And.intro (by first | omega | (simp; omega)) ?_); conv => whnf) | (refine Exists.intro _ (And.intro rfl ?_); conv => whnf) | (refine And.intro (fun _ => ?_) (fun h => absurd h (by decide)); conv => whnf) | (refine And.intro (fun h => absurd h (by decide)) (fun _ => ?_); conv => whnf) | (refine .quiet (by kernel_rfl) ?_; conv => whnf))
        rw [hek]
        conv => whnf
        rw [decide_eq_false (by omega : ¬ (g.getD i []).getD k 0 < 0)]
        conv => whnf
        repeat (first | (refine And.intro ⟨by omega, by omega⟩ ?_; conv => whnf) | (refine And.intro (by omega) (And.intro rfl ?_); conv => whnf) | (refine And.intro rfl ?_; conv => whnf) | (refine And.intro (fun _ => ⟨by omega, by omega⟩) ?_; conv => whnf) | (refine And.intro (fun _ => by omega) (And.intro rfl ?_); conv => whnf) | (refine And.intro ⟨(by first | omega | (simp; omega)), (by first | omega | (simp; omega))⟩ ?_; conv => whnf) | (refine Exists.intro _ (And.intro rfl (And.intro (by first | omega | (simp; omega)) (And.intro ⟨rfl, rfl, rfl, rfl, rfl⟩ ?_))); conv => whnf) | (refine And.intro ⟨rfl, rfl⟩ (And.intro (by first | omega | (simp; omega)) ?_); conv => whnf) | (refine Exists.intro _ (And.intro rfl ?_); conv => whnf) | (refine And.intro (fun _ => ?_) (fun h => absurd h (by decide)); conv => whnf) | (refine And.intro (fun h => absurd h (by decide)) (fun _ => ?_); conv => whnf) | (refine .quiet (by kernel_rfl) ?_; conv => whnf))
        rw [hei]
        conv => whnf
        repeat (first | (refine And.intro ⟨by omega, by omega⟩ ?_; conv => whnf) | (refine And.intro (by omega) (And.intro rfl ?_); conv => whnf) | (refine And.intro rfl ?_; conv => whnf) | (refine And.intro (fun _ => ⟨by omega, by omega⟩) ?_; conv => whnf) | (refine And.intro (fun _ => by omega) (And.intro rfl ?_); conv => whnf) | (refine And.intro ⟨(by first | omega | (simp; omega)), (by first | omega | (simp; omega))⟩ ?_; conv => whnf) | (refine Exists.intro _ (And.intro rfl (And.intro (by first | omega | (simp; omega)) (And.intro ⟨rfl, rfl, rfl, rfl, rfl⟩ ?_))); conv => whnf) | (refine And.intro ⟨rfl, rfl⟩ (And.intro (by first | omega | (simp; omega)) ?_); conv => whnf) | (refine Exists.intro _ (And.intro rfl ?_); conv => whnf) | (refine And.intro (fun _ => ?_) (fun h => absurd h (by decide)); conv => whnf) | (refine And.intro (fun h => absurd h (by decide)) (fun _ => ?_); conv => whnf) | (refine .quiet (by kernel_rfl) ?_; conv => whnf))
        rw [decide_eq_false (by omega : ¬ ((l.length : Int) ≤ (g.getD i []).getD k 0))]
        conv => whnf
        repeat (first | (refine And.intro ⟨by omega, by omega⟩ ?_; conv => whnf) | (refine And.intro (by omega) (And.intro rfl ?_); conv => whnf) | (refine And.intro rfl ?_; conv => whnf) | (refine And.intro (fun _ => ⟨by omega, by omega⟩) ?_; conv => whnf) | (refine And.intro (fun _ => by omega) (And.intro rfl ?_); conv => whnf) | (refine And.intro ⟨(by first | omega | (simp; omega)), (by first | omega | (simp; omega))⟩ ?_; conv => whnf) | (refine Exists.intro _ (And.intro rfl (And.intro (by first | omega | (simp; omega)) (And.intro ⟨rfl, rfl, rfl, rfl, rfl⟩ ?_))); conv => whnf) | (refine And.intro ⟨rfl, rfl⟩ (And.intro (by first | omega | (simp; omega)) ?_); conv => whnf) | (refine Exists.intro _ (And.intro rfl ?_); conv => whnf) | (refine And.intro (fun _ => ?_) (fun h => absurd h (by decide)); conv => whnf) | (refine And.intro (fun h => absurd h (by decide)) (fun _ => ?_); conv => whnf) | (refine .quiet (by kernel_rfl) ?_; conv => whnf))
        refine up hlk trivial ((wk_of [(0, .id 0)] rfl ⟨.base (.tree _ _ rfl rfl), .base (.tree _ _ rfl rfl), .base (.tree _ _ rfl rfl), .base (.tree _ _ rfl rfl), (by first | exact .base (.own _ _ rfl) | exact .base (.nilown _ rfl) | exact .base (.trunc _ _ _ rfl)), .base (.tree _ _ rfl rfl), .base (.tree _ _ rfl rfl), trivial⟩ ⟨⟨_, rfl, (by first | exact .row _ _ _ _ _ _ _ rfl rfl | exact .lstrow _ _ _ _ _ _ _ rfl rfl | exact .nilrow _ _ _ _ _ rfl | exact .truncrow _ _ _ _ _ _ _ _ rfl (by omega) rfl)⟩, trivial⟩))
      · have hc2 := of_decide_eq_false hc2
        obtain rfl : k = (g.getD i []).length := by omega
        conv => whnf
        repeat (first | (refine And.intro ⟨by omega, by omega⟩ ?_; conv => whnf) | (refine And.intro (by omega) (And.intro rfl ?_); conv => whnf) | (refine And.intro rfl ?_; conv => whnf) | (refine And.intro (fun _ => ⟨by omega, by omega⟩) ?_; conv => whnf) | (refine And.intro (fun _ => by omega) (And.intro rfl ?_); conv => whnf) | (refine And.intro ⟨(by first | omega | (simp; omega)), (by first | omega | (simp; omega))⟩ ?_; conv => whnf) | (refine Exists.intro _ (And.intro rfl (And.intro (by first | omega | (simp; omega)) (And.intro ⟨rfl, rfl, rfl, rfl, rfl⟩ ?_))); conv => whnf) | (refine And.intro ⟨rfl, rfl⟩ (And.intro (by first | omega | (simp; omega)) ?_); conv => whnf) | (refine Exists.intro _ (And.intro rfl ?_); conv => whnf) | (refine And.intro (fun _ => ?_) (fun h => absurd h (by decide)); conv => whnf) | (refine And.intro (fun h => absurd h (by decide)) (fun _ => ?_); conv => whnf) | (refine .quiet (by kernel_rfl) ?_; conv => whnf))
        refine up hlt trivial ((wk_of [(0, .id 0)] rfl ⟨.base (.tree _ _ rfl rfl), .base (.tree _ _ rfl rfl), .base (.tree _ _ rfl rfl), .base (.tree _ _ rfl rfl), (by first | exact .base (.own _ _ rfl) | exact .base (.nilown _ rfl) | exact .base (.trunc _ _ _ rfl)), .base (.tree _ _ rfl rfl), trivial⟩ ⟨⟨_, rfl, (by first | exact .row _ _ _ _ _ _ _ rfl rfl | exact .lstrow _ _ _ _ _ _ _ rfl rfl | exact .nilrow _ _ _ _ _ rfl | exact .truncrow _ _ _ _ _ _ _ _ rfl (by omega) rfl)⟩, trivial⟩))
    have hc1 := of_decide_eq_false hc1
    obtain rfl : i = g.length := by omega
    rw [hae]
    conv => whnf
    clear ha0 has hal hae hA
    have hTs := fun {i k : Nat} hi hk {v : Nat} hv => atL_step hix (i := i) (k := k) hi hk (v := v) hv
    have hTn := fun {i : Nat} hi => atL_next hix (i := i) hi
    have hTl := atL_len g.length G
    have hTe := fun {m : Nat} hm => atL_end hix (m := m) hm
    generalize hT : atL g.length G = T at *
    refine loop_up (cxOk _ _) G.length (fun _ => True) (fun i => ⟨[(0, encXs l), (3, .bool true), (4, .sl 1 encIs [] g), (6, .sl 1 encIs [] G), (8, .own 0), (11, .int .i64 (i : Nat))], [(0, .row 3 1 encI 0 (T i 0))], 1⟩) trivial ((wk_of [(0, .id 0)] rfl ⟨.base (.tree _ _ rfl rfl), .base (.tree _ _ rfl rfl), .base (.tree _ _ rfl rfl), .base (.tree _ _ rfl rfl), (by first | exact .base (.own _ _ rfl) | exact .base (.nilown _ rfl) | exact .base (.trunc _ _ _ rfl)), .base (.tree _ _ rfl rfl), trivial⟩ ⟨⟨_, rfl, (by first | exact .row _ _ _ _ _ _ _ rfl rfl | exact .lstrow _ _ _ _ _ _ _ rfl rfl | exact .nilrow _ _ _ _ _ rfl | exact .truncrow _ _ _ _ _ _ _ _ rfl (by omega) rfl)⟩, trivial⟩)) ?_
    intro i hi0 _
    conv => whnf
    refine ⟨fun hc1 => ?_, fun hc1 => ?_⟩
    · have hc1 := of_decide_eq_true hc1
      have hlt : i < G.length := by omega
      have hei : (i : Int).toNat = i := Int.toNat_natCast i
      have hrow := hGc _ (getD_mem (d := []) hlt)
      have hrng := hix.rng i hlt
      have hasc := hix.asc i hlt
      have hTni := hTn hlt
      conv => whnf
      repeat (first | (refine And.intro ⟨by omega, by omega⟩ ?_; conv => whnf) | (refine And.intro (by omega) (And.intro rfl ?_); conv => whnf) | (refine And.intro rfl ?_; conv => whnf) | (refine And.intro (fun _ => ⟨by omega, by omega⟩) ?_; conv => whnf) | (refine And.intro (fun _ => by omega) (And.intro rfl ?_); conv => whnf) | (refine And.intro ⟨(by first | omega | (simp; omega)), (by first | omega | (simp; omega))⟩ ?_; conv => whnf) | (refine Exists.intro _ (And.intro rfl (And.intro (by first | omega | (simp; omega)) (And.intro ⟨rfl, rfl, rfl, rfl, rfl⟩ ?_))); conv => whnf) | (refine And.intro ⟨rfl, rfl⟩ (And.intro (by first | omega | (simp; omega)) ?_); conv => whnf) | (refine Exists.intro _ (And.intro rfl ?_); conv => whnf) | (refine And.intro (fun _ => ?_) (fun h => absurd h (by decide)); conv => whnf) | (refine And.intro (fun h => absurd h (by decide)) (fun _ => ?_); conv => whnf) | (refine .quiet (by kernel_rfl) ?_; conv => whnf))
      refine loop_up (cxOk _ _) (G.getD i []).length (fun _ => True) (fun k => ⟨[(0, encXs l), (3, .bool true), (4, .sl 1 encIs [] g), (6, .sl 1 encIs [] G), (8, .own 0), (11, .int .i64 (i : Nat)), (12, .int .i64 (k : Nat))], [(0, .row 3 1 encI 0 (T i k))], 1⟩) trivial ((wk_of [(0, .id 0)] rfl ⟨.base (.tree _ _ rfl rfl), .base (.tree _ _ rfl rfl), .base (.tree _ _ rfl rfl), .base (.tree _ _ rfl rfl), (by first | exact .base (.own _ _ rfl) | exact .base (.nilown _ rfl) | exact .base (.trunc _ _ _ rfl)), .base (.tree _ _ rfl rfl), .base (.tree _ _ rfl rfl), trivial⟩ ⟨⟨_, rfl, (by first | exact .row _ _ _ _ _ _ _ rfl rfl | exact .lstrow _ _ _ _ _ _ _ rfl rfl | exact .nilrow _ _ _ _ _ rfl | exact .truncrow _ _ _ _ _ _ _ _ rfl (by omega) rfl)⟩, trivial⟩)) ?_
      intro k hk _
      conv => whnf
      repeat (first | (refine And.intro ⟨by omega, by omega⟩ ?_; conv => whnf) | (refine And.intro (by omega) (And.intro rfl ?_); conv => whnf) | (refine And.intro rfl ?_; conv => whnf) | (refine And.intro (fun _ => ⟨by omega, by omega⟩) ?_; conv => whnf) | (refine And.intro (fun _ => by omega) (And.intro rfl ?_); conv => whnf) | (refine And.intro ⟨(by first | omega | (simp; omega)), (by first | omega | (simp; omega))⟩ ?_; conv => whnf) | (refine Exists.intro _ (And.intro rfl (And.intro (by first | omega | (simp; omega)) (And.intro ⟨rfl, rfl, rfl, rfl, rfl⟩ ?_))); conv => whnf) | (refine And.intro ⟨rfl, rfl⟩ (And.intro (by first | omega | (simp; omega)) ?_); conv => whnf) | (refine Exists.intro _ (And.intro rfl ?_); conv => whnf) | (refine And.intro (fun _ => ?_) (fun h => absurd h (by decide)); conv => whnf) | (refine And.intro (fun h => absurd h (by decide)) (fun _ => ?_); conv => whnf) | (refine .quiet (by kernel_rfl) ?_; conv => whnf))
      rw [hei]
      conv => whnf
      refine ⟨fun hc2 => ?_, fun hc2 => ?_⟩
      · have hc2 := of_decide_eq_true hc2
        have hlk : k < (G.getD i []).length := by omega
        have hek : (k : Int).toNat = k := Int.toNat_natCast k
        have hv := hrng _ (getD_mem (d := 0) hlk)
        obtain ⟨v, hv2⟩ : ∃ v : Nat, (G.getD i []).getD k 0 = (v : Int) := ⟨((G.getD i []).getD k 0).toNat, by omega⟩
        obtain ⟨hst1, hst2⟩ := hTs hlt hlk hv2
        have hTlk := hTl i k
        have hev : (v : Int).toNat = v := Int.toNat_natCast v
        have hprev : ∀ j, j < k → (G.getD i []).getD j 0 < (v : Int) := fun j hj => by
          have := List.pairwise_iff_getElem.1 hasc j k (by omega) hlk hj
          rw [← ngetD (d := 0), ← ngetD (d := 0), hv2] at this
          exact this
        generalize hc : G.getD i [] = c at *
        rw [hv2] at hv
        conv => whnf
        repeat (first | (refine And.intro ⟨by omega, by omega⟩ ?_; conv => whnf) | (refine And.intro (by omega) (And.intro rfl ?_); conv => whnf) | (refine And.intro rfl ?_; conv => whnf) | (refine And.intro (fun _ => ⟨by omega, by omega⟩) ?_; conv => whnf) | (refine And.intro (fun _ => by omega) (And.intro rfl ?_); conv => whnf) | (refine And.intro ⟨(by first | omega | (simp; omega)), (by first | omega | (simp; omega))⟩ ?_; conv => whnf) | (refine Exists.intro _ (And.intro rfl (And.intro (by first | omega | (simp; omega)) (And.intro ⟨rfl, rfl, rfl, rfl, rfl⟩ ?_))); conv => whnf) | (refine And.intro ⟨rfl, rfl⟩ (And.intro (by first | omega | (simp; omega)) ?_); conv => whnf) | (refine Exists.intro _ (And.intro rfl ?_); conv => whnf) | (refine And.intro (fun _ => ?_) (fun h => absurd h (by decide)); conv => whnf) | (refine And.intro (fun h => absurd h (by decide)) (fun _ => ?_); conv => whnf) | (refine .quiet (by kernel_rfl) ?_; conv => whnf))
        rw [hei, hc]
        conv => whnf
        repeat (first | (refine And.intro ⟨by omega, by omega⟩ ?_; conv => whnf) | (refine And.intro (by omega) (And.intro rfl ?_); conv => whnf) | (refine And.intro rfl ?_; conv => whnf) | (refine And.intro (fun _ => ⟨by omega, by omega⟩) ?_; conv => whnf) | (refine And.intro (fun _ => by omega) (And.intro rfl ?_); conv => whnf) | (refine And.intro ⟨(by first | omega | (simp; omega)), (by first | omega | (simp; omega))⟩ ?_; conv => whnf) | (refine Exists.intro _ (And.intro rfl (And.intro (by first | omega | (simp; omega)) (And.intro ⟨rfl, rfl, rfl, rfl, rfl⟩ ?_))); conv => whnf) | (refine And.intro ⟨rfl, rfl⟩ (And.intro (by first | omega | (simp; omega)) ?_); conv => whnf) | (refine Exists.intro _ (And.intro rfl ?_); conv => whnf) | (refine And.intro (fun _ => ?_) (fun h => absurd h (by decide)); conv => whnf) | (refine And.intro (fun h => absurd h (by decide)) (fun _ => ?_); conv => whnf) | (refine .quiet (by kernel_rfl) ?_; conv => whnf))
        rw [hek, hv2]
        conv => whnf
        repeat (first | (refine And.intro ⟨by omega, by omega⟩ ?_; conv => whnf) | (refine And.intro (by omega) (And.intro rfl ?_); conv => whnf) | (refine And.intro rfl ?_; conv => whnf) | (refine And.intro (fun _ => ⟨by omega, by omega⟩) ?_; conv => whnf) | (refine And.intro (fun _ => by omega) (And.intro rfl ?_); conv => whnf) | (refine And.intro ⟨(by first | omega | (simp; omega)), (by first | omega | (simp; omega))⟩ ?_; conv => whnf) | (refine Exists.intro _ (And.intro rfl (And.intro (by first | omega | (simp; omega)) (And.intro ⟨rfl, rfl, rfl, rfl, rfl⟩ ?_))); conv => whnf) | (refine And.intro ⟨rfl, rfl⟩ (And.intro (by first | omega | (simp; omega)) ?_); conv => whnf) | (refine Exists.intro _ (And.intro rfl ?_); conv => whnf) | (refine And.intro (fun _ => ?_) (fun h => absurd h (by decide)); conv => whnf) | (refine And.intro (fun h => absurd h (by decide)) (fun _ => ?_); conv => whnf) | (refine .quiet (by kernel_rfl) ?_; conv => whnf))
        rw [decide_eq_false (by omega : ¬ ((v : Int) < 0))]
        conv => whnf
        repeat (first | (refine And.intro ⟨by omega, by omega⟩ ?_; conv => whnf) | (refine And.intro (by omega) (And.intro rfl ?_); conv => whnf) | (refine And.intro rfl ?_; conv => whnf) | (refine And.intro (fun _ => ⟨by omega, by omega⟩) ?_; conv => whnf) | (refine And.intro (fun _ => by omega) (And.intro rfl ?_); conv => whnf) | (refine And.intro ⟨(by first | omega | (simp; omega)), (by first | omega | (simp; omega))⟩ ?_; conv => whnf) | (refine Exists.intro _ (And.intro rfl (And.intro (by first | omega | (simp; omega)) (And.intro ⟨rfl, rfl, rfl, rfl, rfl⟩ ?_))); conv => whnf) | (refine And.intro ⟨rfl, rfl⟩ (And.intro (by first | omega | (simp; omega)) ?_); conv => whnf) | (refine Exists.intro _ (And.intro rfl ?_); conv => whnf) | (refine And.intro (fun _ => ?_) (fun h => absurd h (by decide)); conv => whnf) | (refine And.intro (fun h => absurd h (by decide)) (fun _ => ?_); conv => whnf) | (refine .quiet (by kernel_rfl) ?_; conv => whnf))
        rw [decide_eq_false (by omega : ¬ ((l.length : Int) ≤ (v : Int)))]
        conv => whnf
        repeat (first | (refine And.intro ⟨by omega, by omega⟩ ?_; conv => whnf) | (refine And.intro (by omega) (And.intro rfl ?_); conv => whnf) | (refine And.intro rfl ?_; conv => whnf) | (refine And.intro (fun _ => ⟨by omega, by omega⟩) ?_; conv => whnf) | (refine And.intro (fun _ => by omega) (And.intro rfl ?_); conv => whnf) | (refine And.intro ⟨(by first | omega | (simp; omega)), (by first | omega | (simp; omega))⟩ ?_; conv => whnf) | (refine Exists.intro _ (And.intro rfl (And.intro (by first | omega | (simp; omega)) (And.intro ⟨rfl, rfl, rfl, rfl, rfl⟩ ?_))); conv => whnf) | (refine And.intro ⟨rfl, rfl⟩ (And.intro (by first | omega | (simp; omega)) ?_); conv => whnf) | (refine Exists.intro _ (And.intro rfl ?_); conv => whnf) | (refine And.intro (fun _ => ?_) (fun h => absurd h (by decide)); conv => whnf) | (refine And.intro (fun h => absurd h (by decide)) (fun _ => ?_); conv => whnf) | (refine .quiet (by kernel_rfl) ?_; conv => whnf))
        have hmx : max ((k : Int) - 1) 0 = ((k - 1 : Nat) : Int) := by
          rw [Int.max_def]
          split <;> omega
        have hmt : ((k - 1 : Nat) : Int).toNat = k - 1 := Int.toNat_natCast _
        rw [hmx, hei, hc]
        refine ⟨fun _ => ⟨by omega, by omega⟩, rfl, ?_⟩
        conv => whnf
        repeat (first | (refine And.intro ⟨by omega, by omega⟩ ?_; conv => whnf) | (refine And.intro (by omega) (And.intro rfl ?_); conv => whnf) | (refine And.intro rfl ?_; conv => whnf) | (refine And.intro (fun _ => ⟨by omega, by omega⟩) ?_; conv => whnf) | (refine And.intro (fun _ => by omega) (And.intro rfl ?_); conv => whnf) | (refine And.intro ⟨(by first | omega | (simp; omega)), (by first | omega | (simp; omega))⟩ ?_; conv => whnf) | (refine Exists.intro _ (And.intro rfl (And.intro (by first | omega | (simp; omega)) (And.intro ⟨rfl, rfl, rfl, rfl, rfl⟩ ?_))); conv => whnf) | (refine And.intro ⟨rfl, rfl⟩ (And.intro (by first | omega | (simp; omega)) ?_); conv => whnf) | (refine Exists.intro _ (And.intro rfl ?_); conv => whnf) | (refine And.intro (fun _ => ?_) (fun h => absurd h (by decide)); conv => whnf) | (refine And.intro (fun h => absurd h (by decide)) (fun _ => ?_); conv => whnf) | (refine .quiet (by kernel_rfl) ?_; conv => whnf))
        rw [hmt]
        have hbb : (decide (0 < (k : Int)) && decide ((v : Int) ≤ c.getD (k - 1) 0)) = false := by
          by_cases hk0 : 0 < k
          · have := hprev (k - 1) (by omega)
            rw [decide_eq_false (by omega : ¬ ((v : Int) ≤ c.getD (k - 1) 0)), Bool.and_false]
          · rw [decide_eq_false (by omega : ¬ (0 < (k : Int)))]; rfl
        rw [hbb]
        conv => whnf
        repeat (first | (refine And.intro ⟨by omega, by omega⟩ ?_; conv => whnf) | (refine And.intro (by omega) (And.intro rfl ?_); conv => whnf) | (refine And.intro rfl ?_; conv => whnf) | (refine And.intro (fun _ => ⟨by omega, by omega⟩) ?_; conv => whnf) | (refine And.intro (fun _ => by omega) (And.intro rfl ?_); conv => whnf) | (refine And.intro ⟨(by first | omega | (simp; omega)), (by first | omega | (simp; omega))⟩ ?_; conv => whnf) | (refine Exists.intro _ (And.intro rfl (And.intro (by first | omega | (simp; omega)) (And.intro ⟨rfl, rfl, rfl, rfl, rfl⟩ ?_))); conv => whnf) | (refine And.intro ⟨rfl, rfl⟩ (And.intro (by first | omega | (simp; omega)) ?_); conv => whnf) | (refine Exists.intro _ (And.intro rfl ?_); conv => whnf) | (refine And.intro (fun _ => ?_) (fun h => absurd h (by decide)); conv => whnf) | (refine And.intro (fun h => absurd h (by decide)) (fun _ => ?_); conv => whnf) | (refine .quiet (by kernel_rfl) ?_; conv => whnf))
        rw [hev, hst1]
        refine ⟨fun h => (by cases h), fun _ => ?_⟩
        conv => whnf
        repeat (first | (refine And.intro ⟨by omega, by omega⟩ ?_; conv => whnf) | (refine And.intro (by omega) (And.intro rfl ?_); conv => whnf) | (refine And.intro rfl ?_; conv => whnf) | (refine And.intro (fun _ => ⟨by omega, by omega⟩) ?_; conv => whnf) | (refine And.intro (fun _ => by omega) (And.intro rfl ?_); conv => whnf) | (refine And.intro ⟨(by first | omega | (simp; omega)), (by first | omega | (simp; omega))⟩ ?_; conv => whnf) | (refine Exists.intro _ (And.intro rfl (And.intro (by first | omega | (simp; omega)) (And.intro ⟨rfl, rfl, rfl, rfl, rfl⟩ ?_))); conv => whnf) | (refine And.intro ⟨rfl, rfl⟩ (And.intro (by first | omega | (simp; omega)) ?_); conv => whnf) | (refine Exists.intro _ (And.intro rfl ?_); conv => whnf) | (refine And.intro (fun _ => ?_) (fun h => absurd h (by decide)); conv => whnf) | (refine And.intro (fun h => absurd h (by decide)) (fun _ => ?_); conv => whnf) | (refine .eff (by first | exact cxOk _ _ | exact cxPOk _ _ _) ?_; conv => whnf))
        rw [hev]
        refine up hlk trivial ((wk_of [(0, .id 0)] rfl ⟨.base (.tree _ _ rfl rfl), .base (.tree _ _ rfl rfl), .base (.tree _ _ rfl rfl), .base (.tree _ _ rfl rfl), (by first | exact .base (.own _ _ rfl) | exact .base (.nilown _ rfl) | exact .base (.trunc _ _ _ rfl)), .base (.tree _ _ rfl rfl), .base (.tree _ _ rfl rfl), trivial⟩ ⟨⟨_, rfl, (by first | exact .row _ _ _ _ _ _ _ rfl (hst2.symm) | exact .lstrow _ _ _ _ _ _ _ rfl (hst2.symm) | exact .nilrow _ _ _ _ _ (hst2.symm) | exact .truncrow _ _ _ _ _ _ _ _ rfl (by omega) (hst2.symm))⟩, trivial⟩))
      · have hc2 := of_decide_eq_false hc2
        obtain rfl : k = (G.getD i []).length := by omega
        conv => whnf
        repeat (first | (refine And.intro ⟨by omega, by omega⟩ ?_; conv => whnf) | (refine And.intro (by omega) (And.intro rfl ?_); conv => whnf) | (refine And.intro rfl ?_; conv => whnf) | (refine And.intro (fun _ => ⟨by omega, by omega⟩) ?_; conv => whnf) | (refine And.intro (fun _ => by omega) (And.intro rfl ?_); conv => whnf) | (refine And.intro ⟨(by first | omega | (simp; omega)), (by first | omega | (simp; omega))⟩ ?_; conv => whnf) | (refine Exists.intro _ (And.intro rfl (And.intro (by first | omega | (simp; omega)) (And.intro ⟨rfl, rfl, rfl, rfl, rfl⟩ ?_))); conv => whnf) | (refine And.intro ⟨rfl, rfl⟩ (And.intro (by first | omega | (simp; omega)) ?_); conv => whnf) | (refine Exists.intro _ (And.intro rfl ?_); conv => whnf) | (refine And.intro (fun _ => ?_) (fun h => absurd h (by decide)); conv => whnf) | (refine And.intro (fun h => absurd h (by decide)) (fun _ => ?_); conv => whnf) | (refine .quiet (by kernel_rfl) ?_; conv => whnf))
        refine up hlt trivial ((wk_of [(0, .id 0)] rfl ⟨.base (.tree _ _ rfl rfl), .base (.tree _ _ rfl rfl), .base (.tree _ _ rfl rfl), .base (.tree _ _ rfl rfl), (by first | exact .base (.own _ _ rfl) | exact .base (.nilown _ rfl) | exact .base (.trunc _ _ _ rfl)), .base (.tree _ _ rfl rfl), trivial⟩ ⟨⟨_, rfl, (by first | exact .row _ _ _ _ _ _ _ rfl hTni | exact .lstrow _ _ _ _ _ _ _ rfl hTni | exact .nilrow _ _ _ _ _ hTni | exact .truncrow _ _ _ _ _ _ _ _ rfl (by omega) hTni)⟩, trivial⟩))
    have hc1 := of_decide_eq_false hc1
    obtain rfl : i = G.length := by omega
    conv => whnf
    refine .one _ _ _ (fun _ => hld) (by repeat (first | exact .nil | (apply BorL.cons; first | exact lS rfl | exact lR rfl | exact lM rfl rfl | exact lL rfl | exact lX rfl | exact lN | exact lNl | exact lSm rfl | exact lIm rfl | exact lP rfl | exact lQ rfl | exact lB rfl rfl rfl))) (by first | exact .inl rfl | exact .inr (by repeat (first | exact flats_nil | refine flats_cons (by first | exact flat_val _ rfl | exact flat_row (fun _ => rfl) | exact flat_lst (fun _ => rfl)) ?_))) (by first | exact .inr rfl | exact .inl rfl) ?_
    conv => whnf
    repeat (first | (refine And.intro ⟨by omega, by omega⟩ ?_; conv => whnf) | (refine And.intro (by omega) (And.intro rfl ?_); conv => whnf) | (refine And.intro rfl ?_; conv => whnf) | (refine And.intro (fun _ => ⟨by omega, by omega⟩) ?_; conv => whnf) | (refine And.intro (fun _ => by omega) (And.intro rfl ?_); conv => whnf) | (refine And.intro ⟨(by first | omega | (simp; omega)), (by first | omega | (simp; omega))⟩ ?_; conv => whnf) | (refine Exists.intro _ (And.intro rfl (And.intro (by first | omega | (simp; omega)) (And.intro ⟨rfl, rfl, rfl, rfl, rfl⟩ ?_))); conv => whnf) | (refine And.intro ⟨rfl, rfl⟩ (And.intro (by first | omega | (simp; omega)) ?_); conv => whnf) | (refine Exists.intro _ (And.intro rfl ?_); conv => whnf) | (refine And.intro (fun _ => ?_) (fun h => absurd h (by decide)); conv => whnf) | (refine And.intro (fun h => absurd h (by decide)) (fun _ => ?_); conv => whnf) | (refine .quiet (by kernel_rfl) ?_; conv => whnf))
    generalize hM : ldM g = M at *
    refine loop_up (cxOk _ _) g.length (fun _ => True) (fun i => ⟨[(0, encXs l), (3, .bool true), (4, .sl 1 encIs [] g), (6, .sl 1 encIs [] G), (8, .own 0), (14, .sl 1 encBs [] M), (15, .int .i64 (i : Nat))], [(0, .row 3 1 encI 0 (T G.length 0))], 1⟩) trivial ((wk_of [(0, .id 0)] rfl ⟨.base (.tree _ _ rfl rfl), .base (.tree _ _ rfl rfl), .base (.tree _ _ rfl rfl), .base (.tree _ _ rfl rfl), (by first | exact .base (.own _ _ rfl) | exact .base (.nilown _ rfl) | exact .base (.trunc _ _ _ rfl)), .base (.tree _ _ rfl rfl), .base (.tree _ _ rfl rfl), trivial⟩ ⟨⟨_, rfl, (by first | exact .row _ _ _ _ _ _ _ rfl rfl | exact .lstrow _ _ _ _ _ _ _ rfl rfl | exact .nilrow _ _ _ _ _ rfl | exact .truncrow _ _ _ _ _ _ _ _ rfl (by omega) rfl)⟩, trivial⟩)) ?_
    intro i hi0 _
    conv => whnf
    refine ⟨fun hc2 => ?_, fun hc2 => ?_⟩
    · have hc2 := of_decide_eq_true hc2
      have hlt : i < g.length := by omega
      have hei : (i : Int).toNat = i := Int.toNat_natCast i
      have hTi := hTe hlt
      have hTll := hTl G.length 0
      have hMi := hml i hlt
      have hLi := hll i
      have hixi := hix.lt i hlt
      have hixe : ((ix G i : Nat) : Int).toNat = ix G i := Int.toNat_natCast _
      have hcm := hix.mem i hlt
      have hci := hcirc i hlt
      have hgi := (hGc _ (getD_mem (d := []) hixi)).2
      have hck := circle_ok g (G.getD (ix G i) []) hgk (by omega)
      have hldi : (ldL g i).getD i false = ldB g i i := ldL_get hlt
      conv => whnf
      repeat (first | (refine And.intro ⟨by omega, by omega⟩ ?_; conv => whnf) | (refine And.intro (by omega) (And.intro rfl ?_); conv => whnf) | (refine And.intro rfl ?_; conv => whnf) | (refine And.intro (fun _ => ⟨by omega, by omega⟩) ?_; conv => whnf) | (refine And.intro (fun _ => by omega) (And.intro rfl ?_); conv => whnf) | (refine And.intro ⟨(by first | omega | (simp; omega)), (by first | omega | (simp; omega))⟩ ?_; conv => whnf) | (refine Exists.intro _ (And.intro rfl (And.intro (by first | omega | (simp; omega)) (And.intro ⟨rfl, rfl, rfl, rfl, rfl⟩ ?_))); conv => whnf) | (refine And.intro ⟨rfl, rfl⟩ (And.intro (by first | omega | (simp; omega)) ?_); conv => whnf) | (refine Exists.intro _ (And.intro rfl ?_); conv => whnf) | (refine And.intro (fun _ => ?_) (fun h => absurd h (by decide)); conv => whnf) | (refine And.intro (fun h => absurd h (by decide)) (fun _ => ?_); conv => whnf) | (refine .quiet (by kernel_rfl) ?_; conv => whnf))
      rw [hei, hTi]
      rw [decide_eq_false (by omega : ¬ (((ix G i : Nat) : Int) < 0))]
      conv => whnf
      repeat (first | (refine And.intro ⟨by omega, by omega⟩ ?_; conv => whnf) | (refine And.intro (by omega) (And.intro rfl ?_); conv => whnf) | (refine And.intro rfl ?_; conv => whnf) | (refine And.intro (fun _ => ⟨by omega, by omega⟩) ?_; conv => whnf) | (refine And.intro (fun _ => by omega) (And.intro rfl ?_); conv => whnf) | (refine And.intro ⟨(by first | omega | (simp; omega)), (by first | omega | (simp; omega))⟩ ?_; conv => whnf) | (refine Exists.intro _ (And.intro rfl (And.intro (by first | omega | (simp; omega)) (And.intro ⟨rfl, rfl, rfl, rfl, rfl⟩ ?_))); conv => whnf) | (refine And.intro ⟨rfl, rfl⟩ (And.intro (by first | omega | (simp; omega)) ?_); conv => whnf) | (refine Exists.intro _ (And.intro rfl ?_); conv => whnf) | (refine And.intro (fun _ => ?_) (fun h => absurd h (by decide)); conv => whnf) | (refine And.intro (fun h => absurd h (by decide)) (fun _ => ?_); conv => whnf) | (refine .quiet (by kernel_rfl) ?_; conv => whnf))
      rw [hixe]
      refine .mk _ _ _ _ (fun _ => hck) (by repeat (first | exact .nil | (apply BorL.cons; first | exact lS rfl | exact lR rfl | exact lM rfl rfl | exact lL rfl | exact lX rfl | exact lN | exact lNl | exact lSm rfl | exact lIm rfl | exact lP rfl | exact lQ rfl | exact lB rfl rfl rfl))) rfl ?_
      conv => whnf
      repeat (first | (refine And.intro ⟨by omega, by omega⟩ ?_; conv => whnf) | (refine And.intro (by omega) (And.intro rfl ?_); conv => whnf) | (refine And.intro rfl ?_; conv => whnf) | (refine And.intro (fun _ => ⟨by omega, by omega⟩) ?_; conv => whnf) | (refine And.intro (fun _ => by omega) (And.intro rfl ?_); conv => whnf) | (refine And.intro ⟨(by first | omega | (simp; omega)), (by first | omega | (simp; omega))⟩ ?_; conv => whnf) | (refine Exists.intro _ (And.intro rfl (And.intro (by first | omega | (simp; omega)) (And.intro ⟨rfl, rfl, rfl, rfl, rfl⟩ ?_))); conv => whnf) | (refine And.intro ⟨rfl, rfl⟩ (And.intro (by first | omega | (simp; omega)) ?_); conv => whnf) | (refine Exists.intro _ (And.intro rfl ?_); conv => whnf) | (refine And.intro (fun _ => ?_) (fun h => absurd h (by decide)); conv => whnf) | (refine And.intro (fun h => absurd h (by decide)) (fun _ => ?_); conv => whnf) | (refine .quiet (by kernel_rfl) ?_; conv => whnf))
      rw [hei, hMi]
      conv => whnf
      repeat (first | (refine And.intro ⟨by omega, by omega⟩ ?_; conv => whnf) | (refine And.intro (by omega) (And.intro rfl ?_); conv => whnf) | (refine And.intro rfl ?_; conv => whnf) | (refine And.intro (fun _ => ⟨by omega, by omega⟩) ?_; conv => whnf) | (refine And.intro (fun _ => by omega) (And.intro rfl ?_); conv => whnf) | (refine And.intro ⟨(by first | omega | (simp; omega)), (by first | omega | (simp; omega))⟩ ?_; conv => whnf) | (refine Exists.intro _ (And.intro rfl (And.intro (by first | omega | (simp; omega)) (And.intro ⟨rfl, rfl, rfl, rfl, rfl⟩ ?_))); conv => whnf) | (refine And.intro ⟨rfl, rfl⟩ (And.intro (by first | omega | (simp; omega)) ?_); conv => whnf) | (refine Exists.intro _ (And.intro rfl ?_); conv => whnf) | (refine And.intro (fun _ => ?_) (fun h => absurd h (by decide)); conv => whnf) | (refine And.intro (fun h => absurd h (by decide)) (fun _ => ?_); conv => whnf) | (refine .quiet (by kernel_rfl) ?_; conv => whnf))
      have hb3 : (false || !(circB g (G.getD (ix G i) []) == (ldL g i).getD i false)) = false := by
        rw [hcm, hci, hldi]
        simp
      refine ⟨fun h => (by rw [hb3] at h; cases h), fun _ => ?_⟩
      conv => whnf
      repeat (first | (refine And.intro ⟨by omega, by omega⟩ ?_; conv => whnf) | (refine And.intro (by omega) (And.intro rfl ?_); conv => whnf) | (refine And.intro rfl ?_; conv => whnf) | (refine And.intro (fun _ => ⟨by omega, by omega⟩) ?_; conv => whnf) | (refine And.intro (fun _ => by omega) (And.intro rfl ?_); conv => whnf) | (refine And.intro ⟨(by first | omega | (simp; omega)), (by first | omega | (simp; omega))⟩ ?_; conv => whnf) | (refine Exists.intro _ (And.intro rfl (And.intro (by first | omega | (simp; omega)) (And.intro ⟨rfl, rfl, rfl, rfl, rfl⟩ ?_))); conv => whnf) | (refine And.intro ⟨rfl, rfl⟩ (And.intro (by first | omega | (simp; omega)) ?_); conv => whnf) | (refine Exists.intro _ (And.intro rfl ?_); conv => whnf) | (refine And.intro (fun _ => ?_) (fun h => absurd h (by decide)); conv => whnf) | (refine And.intro (fun h => absurd h (by decide)) (fun _ => ?_); conv => whnf) | (refine .quiet (by kernel_rfl) ?_; conv => whnf))
      refine loop_up (cxOk _ _) g.length (fun _ => True) (fun k => ⟨[(0, encXs l), (3, .bool true), (4, .sl 1 encIs [] g), (6, .sl 1 encIs [] G), (8, .own 0), (14, .sl 1 encBs [] M), (15, .int .i64 (i : Nat)), (16, .int .i64 (k : Nat))], [(0, .row 3 1 encI 0 (T G.length 0))], 1⟩) trivial ((wk_of [(0, .id 0)] rfl ⟨.base (.tree _ _ rfl rfl), .base (.tree _ _ rfl rfl), .base (.tree _ _ rfl rfl), .base (.tree _ _ rfl rfl), (by first | exact .base (.own _ _ rfl) | exact .base (.nilown _ rfl) | exact .base (.trunc _ _ _ rfl)), .base (.tree _ _ rfl rfl), .base (.tree _ _ rfl rfl), .base (.tree _ _ rfl rfl), trivial⟩ ⟨⟨_, rfl, (by first | exact .row _ _ _ _ _ _ _ rfl rfl | exact .lstrow _ _ _ _ _ _ _ rfl rfl | exact .nilrow _ _ _ _ _ rfl | exact .truncrow _ _ _ _ _ _ _ _ rfl (by omega) rfl)⟩, trivial⟩)) ?_
      intro k hk _
      conv => whnf
      refine ⟨fun hc3 => ?_, fun hc3 => ?_⟩
      · have hc3 := of_decide_eq_true hc3
        have hlk : k < g.length := by omega
        have hek : (k : Int).toNat = k := Int.toNat_natCast k
        have hTk := hTe hlk
        have hMk := hml k hlk
        have hLk := hll k
        have g1 : (ldL g i).getD k false = ldB g i k := ldL_get hlk
        have g2 : (ldL g k).getD i false = ldB g k i := ldL_get hlt
        have hsame := hix.same i k hlt hlk
        have hord := hix.ord i k
        rw [← ldB_iff, ← ldB_iff] at hsame
        rw [← ldB_iff] at hord
        generalize ldB g i k = x1 at *
        generalize ldB g k i = x2 at *
        conv => whnf
        repeat (first | (refine And.intro ⟨by omega, by omega⟩ ?_; conv => whnf) | (refine And.intro (by omega) (And.intro rfl ?_); conv => whnf) | (refine And.intro rfl ?_; conv => whnf) | (refine And.intro (fun _ => ⟨by omega, by omega⟩) ?_; conv => whnf) | (refine And.intro (fun _ => by omega) (And.intro rfl ?_); conv => whnf) | (refine And.intro ⟨(by first | omega | (simp; omega)), (by first | omega | (simp; omega))⟩ ?_; conv => whnf) | (refine Exists.intro _ (And.intro rfl (And.intro (by first | omega | (simp; omega)) (And.intro ⟨rfl, rfl, rfl, rfl, rfl⟩ ?_))); conv => whnf) | (refine And.intro ⟨rfl, rfl⟩ (And.intro (by first | omega | (simp; omega)) ?_); conv => whnf) | (refine Exists.intro _ (And.intro rfl ?_); conv => whnf) | (refine And.intro (fun _ => ?_) (fun h => absurd h (by decide)); conv => whnf) | (refine And.intro (fun h => absurd h (by decide)) (fun _ => ?_); conv => whnf) | (refine .quiet (by kernel_rfl) ?_; conv => whnf))
        rw [hei, hek, hTi, hTk]
        conv => whnf
        repeat (first | (refine And.intro ⟨by omega, by omega⟩ ?_; conv => whnf) | (refine And.intro (by omega) (And.intro rfl ?_); conv => whnf) | (refine And.intro rfl ?_; conv => whnf) | (refine And.intro (fun _ => ⟨by omega, by omega⟩) ?_; conv => whnf) | (refine And.intro (fun _ => by omega) (And.intro rfl ?_); conv => whnf) | (refine And.intro ⟨(by first | omega | (simp; omega)), (by first | omega | (simp; omega))⟩ ?_; conv => whnf) | (refine Exists.intro _ (And.intro rfl (And.intro (by first | omega | (simp; omega)) (And.intro ⟨rfl, rfl, rfl, rfl, rfl⟩ ?_))); conv => whnf) | (refine And.intro ⟨rfl, rfl⟩ (And.intro (by first | omega | (simp; omega)) ?_); conv => whnf) | (refine Exists.intro _ (And.intro rfl ?_); conv => whnf) | (refine And.intro (fun _ => ?_) (fun h => absurd h (by decide)); conv => whnf) | (refine And.intro (fun h => absurd h (by decide)) (fun _ => ?_); conv => whnf) | (refine .quiet (by kernel_rfl) ?_; conv => whnf))
        rw [hMi]
        conv => whnf
        repeat (first | (refine And.intro ⟨by omega, by omega⟩ ?_; conv => whnf) | (refine And.intro (by omega) (And.intro rfl ?_); conv => whnf) | (refine And.intro rfl ?_; conv => whnf) | (refine And.intro (fun _ => ⟨by omega, by omega⟩) ?_; conv => whnf) | (refine And.intro (fun _ => by omega) (And.intro rfl ?_); conv => whnf) | (refine And.intro ⟨(by first | omega | (simp; omega)), (by first | omega | (simp; omega))⟩ ?_; conv => whnf) | (refine Exists.intro _ (And.intro rfl (And.intro (by first | omega | (simp; omega)) (And.intro ⟨rfl, rfl, rfl, rfl, rfl⟩ ?_))); conv => whnf) | (refine And.intro ⟨rfl, rfl⟩ (And.intro (by first | omega | (simp; omega)) ?_); conv => whnf) | (refine Exists.intro _ (And.intro rfl ?_); conv => whnf) | (refine And.intro (fun _ => ?_) (fun h => absurd h (by decide)); conv => whnf) | (refine And.intro (fun h => absurd h (by decide)) (fun _ => ?_); conv => whnf) | (refine .quiet (by kernel_rfl) ?_; conv => whnf))
        rw [hek, g1]
        conv => whnf
        repeat (first | (refine And.intro ⟨by omega, by omega⟩ ?_; conv => whnf) | (refine And.intro (by omega) (And.intro rfl ?_); conv => whnf) | (refine And.intro rfl ?_; conv => whnf) | (refine And.intro (fun _ => ⟨by omega, by omega⟩) ?_; conv => whnf) | (refine And.intro (fun _ => by omega) (And.intro rfl ?_); conv => whnf) | (refine And.intro ⟨(by first | omega | (simp; omega)), (by first | omega | (simp; omega))⟩ ?_; conv => whnf) | (refine Exists.intro _ (And.intro rfl (And.intro (by first | omega | (simp; omega)) (And.intro ⟨rfl, rfl, rfl, rfl, rfl⟩ ?_))); conv => whnf) | (refine And.intro ⟨rfl, rfl⟩ (And.intro (by first | omega | (simp; omega)) ?_); conv => whnf) | (refine Exists.intro _ (And.intro rfl ?_); conv => whnf) | (refine And.intro (fun _ => ?_) (fun h => absurd h (by decide)); conv => whnf) | (refine And.intro (fun h => absurd h (by decide)) (fun _ => ?_); conv => whnf) | (refine .quiet (by kernel_rfl) ?_; conv => whnf))
        rw [hMk]
        conv => whnf
        repeat (first | (refine And.intro ⟨by omega, by omega⟩ ?_; conv => whnf) | (refine And.intro (by omega) (And.intro rfl ?_); conv => whnf) | (refine And.intro rfl ?_; conv => whnf) | (refine And.intro (fun _ => ⟨by omega, by omega⟩) ?_; conv => whnf) | (refine And.intro (fun _ => by omega) (And.intro rfl ?_); conv => whnf) | (refine And.intro ⟨(by first | omega | (simp; omega)), (by first | omega | (simp; omega))⟩ ?_; conv => whnf) | (refine Exists.intro _ (And.intro rfl (And.intro (by first | omega | (simp; omega)) (And.intro ⟨rfl, rfl, rfl, rfl, rfl⟩ ?_))); conv => whnf) | (refine And.intro ⟨rfl, rfl⟩ (And.intro (by first | omega | (simp; omega)) ?_); conv => whnf) | (refine Exists.intro _ (And.intro rfl ?_); conv => whnf) | (refine And.intro (fun _ => ?_) (fun h => absurd h (by decide)); conv => whnf) | (refine And.intro (fun h => absurd h (by decide)) (fun _ => ?_); conv => whnf) | (refine .quiet (by kernel_rfl) ?_; conv => whnf))
        rw [hei, g2]
        conv => whnf
        repeat (first | (refine And.intro ⟨by omega, by omega⟩ ?_; conv => whnf) | (refine And.intro (by omega) (And.intro rfl ?_); conv => whnf) | (refine And.intro rfl ?_; conv => whnf) | (refine And.intro (fun _ => ⟨by omega, by omega⟩) ?_; conv => whnf) | (refine And.intro (fun _ => by omega) (And.intro rfl ?_); conv => whnf) | (refine And.intro ⟨(by first | omega | (simp; omega)), (by first | omega | (simp; omega))⟩ ?_; conv => whnf) | (refine Exists.intro _ (And.intro rfl (And.intro (by first | omega | (simp; omega)) (And.intro ⟨rfl, rfl, rfl, rfl, rfl⟩ ?_))); conv => whnf) | (refine And.intro ⟨rfl, rfl⟩ (And.intro (by first | omega | (simp; omega)) ?_); conv => whnf) | (refine Exists.intro _ (And.intro rfl ?_); conv => whnf) | (refine And.intro (fun _ => ?_) (fun h => absurd h (by decide)); conv => whnf) | (refine And.intro (fun h => absurd h (by decide)) (fun _ => ?_); conv => whnf) | (refine .quiet (by kernel_rfl) ?_; conv => whnf))
        have hbb : (!(decide (((ix G i : Nat) : Int) = ((ix G k : Nat) : Int)) == (decide ((i : Int) = (k : Int)) || x1 && x2))) = false := by
          by_cases he : ix G i = ix G k
          · rw [he, decide_eq_true rfl]
            rcases hsame.1 he with h5 | ⟨h5, h6⟩
            · rw [h5, decide_eq_true rfl]; rfl
            · rw [h5, h6]; simp
          · rw [decide_eq_false (by omega : ¬ (((ix G i : Nat) : Int) = ((ix G k : Nat) : Int)))]
            have h5 : ¬ i = k := fun e => he (hsame.2 (.inl e))
            rw [decide_eq_false (by omega : ¬ ((i : Int) = (k : Int)))]
            have h6 : ¬ (x1 = true ∧ x2 = true) := fun e => he (hsame.2 (.inr e))
            cases x1 <;> cases x2 <;> simp_all
        rw [hbb, hMi]
        conv => whnf
        repeat (first | (refine And.intro ⟨by omega, by omega⟩ ?_; conv => whnf) | (refine And.intro (by omega) (And.intro rfl ?_); conv => whnf) | (refine And.intro rfl ?_; conv => whnf) | (refine And.intro (fun _ => ⟨by omega, by omega⟩) ?_; conv => whnf) | (refine And.intro (fun _ => by omega) (And.intro rfl ?_); conv => whnf) | (refine And.intro ⟨(by first | omega | (simp; omega)), (by first | omega | (simp; omega))⟩ ?_; conv => whnf) | (refine Exists.intro _ (And.intro rfl (And.intro (by first | omega | (simp; omega)) (And.intro ⟨rfl, rfl, rfl, rfl, rfl⟩ ?_))); conv => whnf) | (refine And.intro ⟨rfl, rfl⟩ (And.intro (by first | omega | (simp; omega)) ?_); conv => whnf) | (refine Exists.intro _ (And.intro rfl ?_); conv => whnf) | (refine And.intro (fun _ => ?_) (fun h => absurd h (by decide)); conv => whnf) | (refine And.intro (fun h => absurd h (by decide)) (fun _ => ?_); conv => whnf) | (refine .quiet (by kernel_rfl) ?_; conv => whnf))
        rw [hek, g1]
        conv => whnf
        repeat (first | (refine And.intro ⟨by omega, by omega⟩ ?_; conv => whnf) | (refine And.intro (by omega) (And.intro rfl ?_); conv => whnf) | (refine And.intro rfl ?_; conv => whnf) | (refine And.intro (fun _ => ⟨by omega, by omega⟩) ?_; conv => whnf) | (refine And.intro (fun _ => by omega) (And.intro rfl ?_); conv => whnf) | (refine And.intro ⟨(by first | omega | (simp; omega)), (by first | omega | (simp; omega))⟩ ?_; conv => whnf) | (refine Exists.intro _ (And.intro rfl (And.intro (by first | omega | (simp; omega)) (And.intro ⟨rfl, rfl, rfl, rfl, rfl⟩ ?_))); conv => whnf) | (refine And.intro ⟨rfl, rfl⟩ (And.intro (by first | omega | (simp; omega)) ?_); conv => whnf) | (refine Exists.intro _ (And.intro rfl ?_); conv => whnf) | (refine And.intro (fun _ => ?_) (fun h => absurd h (by decide)); conv => whnf) | (refine And.intro (fun h => absurd h (by decide)) (fun _ => ?_); conv => whnf) | (refine .quiet (by kernel_rfl) ?_; conv => whnf))
        rw [hei, hTi, hTk]
        have hbo : (false || x1 && decide (((ix G i : Nat) : Int) < ((ix G k : Nat) : Int))) = false := by
          cases hx1 : x1 with
          | false => rfl
          | true =>
            have := hord hx1
            rw [decide_eq_false (by omega : ¬ (((ix G i : Nat) : Int) < ((ix G k : Nat) : Int)))]
            rfl
        rw [hbo]
        conv => whnf
        repeat (first | (refine And.intro ⟨by omega, by omega⟩ ?_; conv => whnf) | (refine And.intro (by omega) (And.intro rfl ?_); conv => whnf) | (refine And.intro rfl ?_; conv => whnf) | (refine And.intro (fun _ => ⟨by omega, by omega⟩) ?_; conv => whnf) | (refine And.intro (fun _ => by omega) (And.intro rfl ?_); conv => whnf) | (refine And.intro ⟨(by first | omega | (simp; omega)), (by first | omega | (simp; omega))⟩ ?_; conv => whnf) | (refine Exists.intro _ (And.intro rfl (And.intro (by first | omega | (simp; omega)) (And.intro ⟨rfl, rfl, rfl, rfl, rfl⟩ ?_))); conv => whnf) | (refine And.intro ⟨rfl, rfl⟩ (And.intro (by first | omega | (simp; omega)) ?_); conv => whnf) | (refine Exists.intro _ (And.intro rfl ?_); conv => whnf) | (refine And.intro (fun _ => ?_) (fun h => absurd h (by decide)); conv => whnf) | (refine And.intro (fun h => absurd h (by decide)) (fun _ => ?_); conv => whnf) | (refine .quiet (by kernel_rfl) ?_; conv => whnf))
        refine up hlk trivial ((wk_of [(0, .id 0)] rfl ⟨.base (.tree _ _ rfl rfl), .base (.tree _ _ rfl rfl), .base (.tree _ _ rfl rfl), .base (.tree _ _ rfl rfl), (by first | exact .base (.own _ _ rfl) | exact .base (.nilown _ rfl) | exact .base (.trunc _ _ _ rfl)), .base (.tree _ _ rfl rfl), .base (.tree _ _ rfl rfl), .base (.tree _ _ rfl rfl), trivial⟩ ⟨⟨_, rfl, (by first | exact .row _ _ _ _ _ _ _ rfl rfl | exact .lstrow _ _ _ _ _ _ _ rfl rfl | exact .nilrow _ _ _ _ _ rfl | exact .truncrow _ _ _ _ _ _ _ _ rfl (by omega) rfl)⟩, trivial⟩))
      have hc3 := of_decide_eq_false hc3
      obtain rfl : k = g.length := by omega
      conv => whnf
      repeat (first | (refine And.intro ⟨by omega, by omega⟩ ?_; conv => whnf) | (refine And.intro (by omega) (And.intro rfl ?_); conv => whnf) | (refine And.intro rfl ?_; conv => whnf) | (refine And.intro (fun _ => ⟨by omega, by omega⟩) ?_; conv => whnf) | (refine And.intro (fun _ => by omega) (And.intro rfl ?_); conv => whnf) | (refine And.intro ⟨(by first | omega | (simp; omega)), (by first | omega | (simp; omega))⟩ ?_; conv => whnf) | (refine Exists.intro _ (And.intro rfl (And.intro (by first | omega | (simp; omega)) (And.intro ⟨rfl, rfl, rfl, rfl, rfl⟩ ?_))); conv => whnf) | (refine And.intro ⟨rfl, rfl⟩ (And.intro (by first | omega | (simp; omega)) ?_); conv => whnf) | (refine Exists.intro _ (And.intro rfl ?_); conv => whnf) | (refine And.intro (fun _ => ?_) (fun h => absurd h (by decide)); conv => whnf) | (refine And.intro (fun h => absurd h (by decide)) (fun _ => ?_); conv => whnf) | (refine .quiet (by kernel_rfl) ?_; conv => whnf))
      refine up hlt trivial ((wk_of [(0, .id 0)] rfl ⟨.base (.tree _ _ rfl rfl), .base (.tree _ _ rfl rfl), .base (.tree _ _ rfl rfl), .base (.tree _ _ rfl rfl), (by first | exact .base (.own _ _ rfl) | exact .base (.nilown _ rfl) | exact .base (.trunc _ _ _ rfl)), .base (.tree _ _ rfl rfl), .base (.tree _ _ rfl rfl), trivial⟩ ⟨⟨_, rfl, (by first | exact .row _ _ _ _ _ _ _ rfl rfl | exact .lstrow _ _ _ _ _ _ _ rfl rfl | exact .nilrow _ _ _ _ _ rfl | exact .truncrow _ _ _ _ _ _ _ _ rfl (by omega) rfl)⟩, trivial⟩))
    have hc2 := of_decide_eq_false hc2
    obtain rfl : i = g.length := by omega
    conv => whnf
    rfl
  · conv => whnf
    repeat (first | (refine And.intro ⟨by omega, by omega⟩ ?_; conv => whnf) | (refine And.intro (by omega) (And.intro rfl ?_); conv => whnf) | (refine And.intro rfl ?_; conv => whnf) | (refine And.intro (fun _ => ⟨by omega, by omega⟩) ?_; conv => whnf) | (refine And.intro (fun _ => by omega) (And.intro rfl ?_); conv => whnf) | (refine And.intro ⟨(by first | omega | (simp; omega)), (by first | omega | (simp; omega))⟩ ?_; conv => whnf) | (refine Exists.intro _ (And.intro rfl (And.intro (by first | omega | (simp; omega)) (And.intro ⟨rfl, rfl, rfl, rfl, rfl⟩ ?_))); conv => whnf) | (refine And.intro ⟨rfl, rfl⟩ (And.intro (by first | omega | (simp; omega)) ?_); conv => whnf) | (refine Exists.intro _ (And.intro rfl ?_); conv => whnf) | (refine And.intro (fun _ => ?_) (fun h => absurd h (by decide)); conv => whnf) | (refine And.intro (fun h => absurd h (by decide)) (fun _ => ?_); conv => whnf) | (refine .quiet (by kernel_rfl) ?_; conv => whnf))
    refine .one _ _ _ (fun _ => hg1) (by repeat (first | exact .nil | (apply BorL.cons; first | exact lS rfl | exact lR rfl | exact lM rfl rfl | exact lL rfl | exact lX rfl | exact lN | exact lNl | exact lSm rfl | exact lIm rfl | exact lP rfl | exact lQ rfl | exact lB rfl rfl rfl))) (by first | exact .inl rfl | exact .inr (by repeat (first | exact flats_nil | refine flats_cons (by first | exact flat_val _ rfl | exact flat_row (fun _ => rfl) | exact flat_lst (fun _ => rfl)) ?_))) (by first | exact .inr rfl | exact .inl rfl) ?_
    conv => whnf
    repeat (first | (refine And.intro ⟨by omega, by omega⟩ ?_; conv => whnf) | (refine And.intro (by omega) (And.intro rfl ?_); conv => whnf) | (refine And.intro rfl ?_; conv => whnf) | (refine And.intro (fun _ => ⟨by omega, by omega⟩) ?_; conv => whnf) | (refine And.intro (fun _ => by omega) (And.intro rfl ?_); conv => whnf) | (refine And.intro ⟨(by first | omega | (simp; omega)), (by first | omega | (simp; omega))⟩ ?_; conv => whnf) | (refine Exists.intro _ (And.intro rfl (And.intro (by first | omega | (simp; omega)) (And.intro ⟨rfl, rfl, rfl, rfl, rfl⟩ ?_))); conv => whnf) | (refine And.intro ⟨rfl, rfl⟩ (And.intro (by first | omega | (simp; omega)) ?_); conv => whnf) | (refine Exists.intro _ (And.intro rfl ?_); conv => whnf) | (refine And.intro (fun _ => ?_) (fun h => absurd h (by decide)); conv => whnf) | (refine And.intro (fun h => absurd h (by decide)) (fun _ => ?_); conv => whnf) | (refine .quiet (by kernel_rfl) ?_; conv => whnf))
    refine .one _ _ _ (fun _ => hg2) (by repeat (first | exact .nil | (apply BorL.cons; first | exact lS rfl | exact lR rfl | exact lM rfl rfl | exact lL rfl | exact lX rfl | exact lN | exact lNl | exact lSm rfl | exact lIm rfl | exact lP rfl | exact lQ rfl | exact lB rfl rfl rfl))) (by first | exact .inl rfl | exact .inr (by repeat (first | exact flats_nil | refine flats_cons (by first | exact flat_val _ rfl | exact flat_row (fun _ => rfl) | exact flat_lst (fun _ => rfl)) ?_))) (by first | exact .inr rfl | exact .inl rfl) ?_
    conv => whnf
    repeat (first | (refine And.intro ⟨by omega, by omega⟩ ?_; conv => whnf) | (refine And.intro (by omega) (And.intro rfl ?_); conv => whnf) | (refine And.intro rfl ?_; conv => whnf) | (refine And.intro (fun _ => ⟨by omega, by omega⟩) ?_; conv => whnf) | (refine And.intro (fun _ => by omega) (And.intro rfl ?_); conv => whnf) | (refine And.intro ⟨(by first | omega | (simp; omega)), (by first | omega | (simp; omega))⟩ ?_; conv => whnf) | (refine Exists.intro _ (And.intro rfl (And.intro (by first | omega | (simp; omega)) (And.intro ⟨rfl, rfl, rfl, rfl, rfl⟩ ?_))); conv => whnf) | (refine And.intro ⟨rfl, rfl⟩ (And.intro (by first | omega | (simp; omega)) ?_); conv => whnf) | (refine Exists.intro _ (And.intro rfl ?_); conv => whnf) | (refine And.intro (fun _ => ?_) (fun h => absurd h (by decide)); conv => whnf) | (refine And.intro (fun h => absurd h (by decide)) (fun _ => ?_); conv => whnf) | (refine .quiet (by kernel_rfl) ?_; conv => whnf))
    rw [decide_eq_false h0]
    refine ⟨fun _ => ?_, fun h => (by cases h)⟩
    conv => whnf
    repeat (first | (refine And.intro ⟨by omega, by omega⟩ ?_; conv => whnf) | (refine And.intro (by omega) (And.intro rfl ?_); conv => whnf) | (refine And.intro rfl ?_; conv => whnf) | (refine And.intro (fun _ => ⟨by omega, by omega⟩) ?_; conv => whnf) | (refine And.intro (fun _ => by omega) (And.intro rfl ?_); conv => whnf) | (refine And.intro ⟨(by first | omega | (simp; omega)), (by first | omega | (simp; omega))⟩ ?_; conv => whnf) | (refine Exists.intro _ (And.intro rfl (And.intro (by first | omega | (simp; omega)) (And.intro ⟨rfl, rfl, rfl, rfl, rfl⟩ ?_))); conv => whnf) | (refine And.intro ⟨rfl, rfl⟩ (And.intro (by first | omega | (simp; omega)) ?_); conv => whnf) | (refine Exists.intro _ (And.intro rfl ?_); conv => whnf) | (refine And.intro (fun _ => ?_) (fun h => absurd h (by decide)); conv => whnf) | (refine And.intro (fun h => absurd h (by decide)) (fun _ => ?_); conv => whnf) | (refine .quiet (by kernel_rfl) ?_; conv => whnf))
    rw [decide_eq_true (rfl : errG l = errG l)]
    conv => whnf
    repeat (first | (refine And.intro ⟨by omega, by omega⟩ ?_; conv => whnf) | (refine And.intro (by omega) (And.intro rfl ?_); conv => whnf) | (refine And.intro rfl ?_; conv => whnf) | (refine And.intro (fun _ => ⟨by omega, by omega⟩) ?_; conv => whnf) | (refine And.intro (fun _ => by omega) (And.intro rfl ?_); conv => whnf) | (refine And.intro ⟨(by first | omega | (simp; omega)), (by first | omega | (simp; omega))⟩ ?_; conv => whnf) | (refine Exists.intro _ (And.intro rfl (And.intro (by first | omega | (simp; omega)) (And.intro ⟨rfl, rfl, rfl, rfl, rfl⟩ ?_))); conv => whnf) | (refine And.intro ⟨rfl, rfl⟩ (And.intro (by first | omega | (simp; omega)) ?_); conv => whnf) | (refine Exists.intro _ (And.intro rfl ?_); conv => whnf) | (refine And.intro (fun _ => ?_) (fun h => absurd h (by decide)); conv => whnf) | (refine And.intro (fun h => absurd h (by decide)) (fun _ => ?_); conv => whnf) | (refine .quiet (by kernel_rfl) ?_; conv => whnf))
    rw [show gsE l = [] by unfold gsE; rw [if_neg h0]]
    rfl

end Go.Proofs.Ytmcgfkkagijcmaa
