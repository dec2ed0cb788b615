/-
  strconv.Itoa below 100, and rows that list tables.
-/
import Derived.Test.YtglalejjcfcfkaaDoorOwnZ2
import Derived.Shelf.Strconv.Itoa3
namespace Go.Own
open Go.Proofs Go.Shelf Go.ChangeShapes Go.WideShapes Go.RowKit

theorem relT_int {S : Blocks} {w : World} {v : Value} {k : IntKind} {n : Int} (h : RelT S w v (.int k n)) : v = .int k n := by
  cases h
  rfl

theorem itoa_small {P : Program} {ρ : Shelf.Ren} (L : Lays.n171 P ρ) (hfn : FnOk P (ρ.f 171)) {i : Nat} (hi : i < 100) : APureV P (ρ.f 171) [.int .i64 i] (.str (Lib.decDigits i)) := by
  refine ⟨hfn, fun S w vs hS hv => ?_⟩
  obtain ⟨hlen, hr⟩ := hv
  match vs, hlen with
  | [v], _ =>
    obtain rfl := relT_int (hr 0 v _ rfl rfl)
    refine (Any.strconv_Itoa_small L i hi w).mono ?_
    rintro e w' ⟨rfl, rfl⟩
    refine ⟨[.string ⟨(Lib.decDigits i).toArray⟩], _, S, rfl, rfl, ⟨rfl, fun j u r hu hr => ?_, Below.refl _ _, fun _ h => h, fun _ h => .inl h, hS, fun j u b k hu hb hk => ?_⟩⟩
    · match j, hu, hr with
      | 0, hu, hr =>
        simp at hu hr
        subst hu
        subst hr
        exact .str _ _ (by simp)
    · match j, hb with
      | 0, hb => simp at hb

/-- The row of a law that lists tables, out of its contract. -/
theorem row_lifted_laid {C : Checked} {P : Program} (hC : C.prog = P) {os : Os} {f : FuncId} {fn : Func} {s : ChangeSpec} {conds : List PathCond} {H : Type} {enc : TypeId × Value → H} {tb : TypeId} (laid : List (String × DataW Unit)) {Qs : List (AV → Prop)}
    (own : ownKnob P.godebug = none) (started : os.Started) (noInit : P.inits.idxOf? f = none) (hfn : P.funcs[f]? = some fn)
    (witness : ∃ (w : World) (tape : Tape) (i : Input), w.os = os ∧ (w.forCall tape i).Shaped P ∧ i.vars = [] ∧ Input.okWide P (w.forCall tape i) .any w.heap.size f i ∧
      ((s.pre enc P fn conds false (w.forCall tape i).memory i.args ∧ laidMet P laid (w.forCall tape i).memory) ∧ sizedMet enc P fn (OpenSpec.ofChange s) false (w.forCall tape i).memory i.args) ∧ ({} : Assume).holds P (lone (Frame.enter P f i.args .normal) [] (w.forCall tape i)))
    (hl : laidOutB P = true) (hsv : s.vars = []) (hr : (fn.params.toList.all fun t => P.readableRec t && decide (t < P.types.size)) = true)
    (hres : fn.resultTypes = #[tb]) (htb : P.underlying tb = some .bool) (hspec : ∀ ds : List (DataW H), ds.length = fn.params.size → s.fn H (ds ++ []) = { results := [.lit (.bool true)], args := ds })
    (hQ : OpVs P fn.params.toList Qs) (hA : ∀ avs, Alls Qs avs → APureV P f avs (.bool true)) :
    ReturnsInHanded {} C os f .any (fun w args => (s.pre enc P fn conds false w args ∧ laidMet P laid w) ∧ sizedMet enc P fn (OpenSpec.ofChange s) false w args) (s.post enc P fn false true false false) := by
  subst hC
  refine returnsInHanded_of_change_and (X := fun w _ => laidMet C.prog laid w) (fun _ _ _ hh h => h.of_heap hh) own started noInit hfn witness ?_
  intro W base args ds gs before hval0 hW hcnd _ _ _
  have hval : ∀ (j : Nat) t v, fn.params[j]? = some t → args[j]? = some v → Value.okWide C.prog W .any base t v := hval0
  have hW' := hW
  obtain ⟨p, q, hA0, hV, rfl, hfz, hnd⟩ := hW
  have hA1 : DataW.TrodAll enc C.prog W 0 (fun _ => true) true fn.params.toList args.toList ds p := hA0
  rw [hsv] at hV
  obtain ⟨rfl, rfl⟩ := trodVars_none hV
  obtain ⟨avs, h1, h2⟩ := opens_list fn.params.toList Qs args.toList ds p hQ (fun j t v h1 h2 => hval j t v (by simpa using h1) (by simpa using h2)) hA1
  have hlen : ∀ (ts : List TypeId) (vs : List Value) (ds : List (DataW H)) (ps : List MemPlace), DataW.TrodAll enc C.prog W 0 (fun _ => true) true ts vs ds ps → ds.length = ts.length := by
    intro ts
    induction ts with
    | nil => intro vs ds ps h; obtain ⟨_, rfl, _⟩ := trodAll_nil h; rfl
    | cons t ts ih =>
      intro vs ds ps h
      obtain ⟨v, vs', d, ds', p, q, rfl, rfl, rfl, _, h2⟩ := trodAll_cons h
      simp [ih _ _ _ h2]
  have hr' : ∀ t ∈ fn.params.toList, C.prog.readableRec t = true ∧ t < C.prog.types.size := by
    intro t ht
    have := List.all_eq_true.1 hr t ht
    simpa using this
  exact row_of_apure hl hsv hW' hr' hres htb (hspec ds (by simpa using hlen _ _ _ _ hA1)) (hA avs h1) h2

end Go.Own
