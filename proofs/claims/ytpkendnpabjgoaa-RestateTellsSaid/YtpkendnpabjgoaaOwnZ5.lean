/-
  What a tree says may be said more loosely, also inside structs and lists.
-/
import Derived.Test.YtpkendnpabjgoaaOwnZ4
namespace Go.Own

/-- What stands for the one stands for the other. -/
def LeT (a b : AV) : Prop := ∀ (S : Blocks) (w : World) (v : Value), RelT S w v a → RelT S w v b

theorem LeT.refl (a : AV) : LeT a a := fun _ _ _ h => h
theorem LeT.nils_sl {T : Type} (E : Nat) (enc : T → AV) (d : T) : LeT .nils (.sl E enc d []) := fun S w v h => by
  cases h
  exact .sl _ _ _ _ _ (.lslnil E)
theorem LeT.lsl_sl {T : Type} {E : Nat} {l : List AV} (enc : T → AV) (d : T) (xs : List T) (h : l = xs.map enc) : LeT (.lsl E l) (.sl E enc d xs) := fun S w v hr => .sl _ _ _ _ _ (by rw [← h]; exact hr)

inductive LeTs : List AV → List AV → Prop
  | nil : LeTs [] []
  | cons {a b : AV} {l r : List AV} (h : LeT a b) (t : LeTs l r) : LeTs (a :: l) (b :: r)

theorem LeTs.len {l r : List AV} (h : LeTs l r) : r.length = l.length := by
  induction h with
  | nil => rfl
  | cons _ _ ih => simp [ih]
theorem LeTs.get {l r : List AV} (h : LeTs l r) : ∀ {j : Nat} {b : AV}, r[j]? = some b → ∃ a, l[j]? = some a ∧ LeT a b := by
  induction h with
  | nil => intro j b h; simp at h
  | cons h0 t ih =>
    intro j b h
    cases j with
    | zero => simp at h; subst h; exact ⟨_, rfl, h0⟩
    | succ j => exact ih (by simpa using h)

/-- A list of structs. -/
theorem LeT.lsl {E : Nat} {l r : List AV} (hlen : r.length = l.length) (hE : ∀ x ∈ r, x.cells.length = E) (h1 : ∀ a ∈ flat r, a.one = true) (h : LeTs (flat l) (flat r)) : LeT (.lsl E l) (.lsl E r) := fun S w v hr => by
  have e0 : l = [] → r = [] := fun e => List.eq_nil_of_length_eq_zero (by rw [hlen, e]; rfl)
  cases hr with
  | lslnil => rw [e0 rfl]; exact .lslnil E
  | lslz _ a => rw [e0 rfl]; exact .lslz E a
  | lsl _ _ g o cap cs hs hcap hE' h1' hl hc hrel =>
    rw [← hlen]
    exact .lsl E r g o cap cs hs (by rw [hlen]; exact hcap) hE h1 (by rw [hlen]; exact hl) hc (fun j c b hj hb => by
      obtain ⟨a, ha, hab⟩ := h.get hb
      exact hab S w c (hrel j c a hj ha))

theorem APure.leT {P : Program} {f : FuncId} {args : List AV} {a b : AV} (h : APure P f args (fun rs => rs = [.val a])) (hl : LeT a b) : APure P f args (fun rs => rs = [.val b]) := by
  refine ⟨h.1, fun S w vs hS hv => (h.2 S w vs hS hv).mono fun _ _ ⟨us, rs, S', he, hR, hL⟩ => ⟨us, [.val b], S', he, rfl, ?_⟩⟩
  subst hR
  refine ⟨hL.len, fun j u r hu hr => ?_, hL.below, hL.ros, hL.fresh, hL.lt, fun i u b' k hu hb hk => ?_⟩
  · cases j with
    | zero =>
      simp at hr
      subst hr
      exact hl _ _ _ (hL.rel 0 u _ hu rfl)
    | succ j => simp at hr
  · cases i with
    | zero => simp at hb
    | succ i => simp at hb

end Go.Own
