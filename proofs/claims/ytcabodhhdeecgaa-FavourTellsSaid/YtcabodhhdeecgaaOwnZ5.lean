/-
  What a tree says may be said more loosely, also inside structs and lists.
-/
import Derived.Test.YtcabodhhdeecgaaOwnZ4
namespace Go.Own

/-- A list of structs. -/
theorem LeT.lsl {E : Nat} {l r : List AV} (hlen : r.length = l.length) (hE : ∀ x ∈ r, x.cells.length = E) (h1 : ∀ a ∈ flat r, a.one = true) (h : LeTs (flat l) (flat r)) : LeT (.lsl E l) (.lsl E r) := fun S w v hr => by
  have e0 : l = [] → r = [] := fun e => List.eq_nil_of_length_eq_zero (by rw [hlen, e]; rfl)
  cases hr with
  | lslnil => rw [e0 rfl]; exact .lslnil E
  | lslz _ a => rw [e0 rfl]; exact .lslz E a
  | lsl _ _ g o cap cs hs hcap hE' h1' hl hc hrel =>
    rw [← hlen]
    exact .lsl E r g o cap cs hs (by rw [hlen]; exact hcap) hE h1 (by rw [hlen]; exact hl) hc (fun j c b hj hb => by
      obtain ⟨a, ha, hab⟩ := h.get hb
      exact hab S w c (hrel j c a hj ha))

theorem APure.leT [Tabs] {P : Program} {f : FuncId} {args : List AV} {a b : AV} (h : APure P f args (fun rs => rs = [.val a])) (hl : LeT a b) : APure P f args (fun rs => rs = [.val b]) := by
  refine ⟨h.1, fun S w vs hS hT hv => (h.2 S w vs hS hT hv).mono fun _ _ ⟨us, rs, S', he, hR, hL⟩ => ⟨us, [.val b], S', he, rfl, ?_⟩⟩
  subst hR
  refine ⟨hL.len, fun j u r hu hr => ?_, hL.below, hL.ros, hL.fresh, hL.lt, fun i u b' k hu hb hk => ?_⟩
  · cases j with
    | zero =>
      simp at hr
      subst hr
      exact hl _ _ _ (hL.rel 0 u _ hu rfl)
    | succ j => simp at hr
  · cases i with
    | zero => simp at hb
    | succ i => simp at hb

end Go.Own
