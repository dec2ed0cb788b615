/- This text proves of the given program that the law FactNow returns true for every input and leaves its arguments as they were; no condition. -/
import Derived.Test.YtnpnjaeobdapcaaRows
import Derived.Test.YtnpnjaeobdapcaaT9
import Derived.Test.YtnpnjaeobdapcaaOwnZ
import Derived.ProofKit
namespace Go.Proofs.Ytnpnjaeobdapcaa
open Go.Own Go.ChangeShapes Go.WideShapes Go.ChangeAt Go.RowKit

theorem Try.own : ownKnob Try.prog.godebug = none := by kernel_rfl
theorem Try.laidOut : laidOutB Try.prog = true := by kernel_rfl
theorem und3 : Try.prog.underlying 3 = some (.int .i64) := by kernel_rfl
theorem und9 : Try.prog.underlying 9 = some .string := by kernel_rfl
theorem und4 : Try.prog.underlying 4 = some .bool := by kernel_rfl
theorem und22 : Try.prog.underlying 22 = some (.slice 24) := by kernel_rfl
def fieldsF : Array Field := #[{ name := "Issuer", type := 3, offset := 0, embedded := false, tag := "", pkgPath := "", byteOffset := 0 }, { name := "Name", type := 9, offset := 1, embedded := false, tag := "", pkgPath := "", byteOffset := 8 }, { name := "Period", type := 3, offset := 2, embedded := false, tag := "", pkgPath := "", byteOffset := 24 }, { name := "Value", type := 3, offset := 3, embedded := false, tag := "", pkgPath := "", byteOffset := 32 }, { name := "Day", type := 3, offset := 4, embedded := false, tag := "", pkgPath := "", byteOffset := 40 }]
theorem und24 : Try.prog.underlying 24 = some (.struct fieldsF) := by kernel_rfl
theorem cells3 : Try.prog.cellsOf 3 = 1 := by kernel_rfl
theorem cells9 : Try.prog.cellsOf 9 = 1 := by kernel_rfl
theorem cells24 : Try.prog.cellsOf 24 = 5 := by kernel_rfl

theorem size_bytes (s : ByteArray) : s.data.toList.length = s.size := rfl

theorem opens_fact : OpensC Try.prog 24 encF (fun f => f.name.length ≤ 9223372036854775807) := by
  intro H ec W fuel cs x h
  obtain ⟨xs, n, _, _, hl, hlen, hf⟩ := DataW.trod_struct und24 h
  rw [cells24] at hl
  match cs, hl with
  | [c0, c1, c2, c3, c4], _ =>
    have get : ∀ i, i < 5 → ∃ y, xs[i]? = some y := fun i hi => ⟨_, List.getElem?_eq_getElem (by rw [hlen]; exact hi)⟩
    have f0 : DataW.trod ec Try.prog W 0 (fun _ => true) true n 3 (List.take (Try.prog.cellsOf 3) (List.drop 0 [c0, c1, c2, c3, c4])) = xs[0]? := hf 0 _ rfl
    have f1 : DataW.trod ec Try.prog W 0 (fun _ => true) true n 9 (List.take (Try.prog.cellsOf 9) (List.drop 1 [c0, c1, c2, c3, c4])) = xs[1]? := hf 1 _ rfl
    have f2 : DataW.trod ec Try.prog W 0 (fun _ => true) true n 3 (List.take (Try.prog.cellsOf 3) (List.drop 2 [c0, c1, c2, c3, c4])) = xs[2]? := hf 2 _ rfl
    have f3 : DataW.trod ec Try.prog W 0 (fun _ => true) true n 3 (List.take (Try.prog.cellsOf 3) (List.drop 3 [c0, c1, c2, c3, c4])) = xs[3]? := hf 3 _ rfl
    have f4 : DataW.trod ec Try.prog W 0 (fun _ => true) true n 3 (List.take (Try.prog.cellsOf 3) (List.drop 4 [c0, c1, c2, c3, c4])) = xs[4]? := hf 4 _ rfl
    obtain ⟨y0, e0⟩ := get 0 (by decide)
    obtain ⟨y1, e1⟩ := get 1 (by decide)
    obtain ⟨y2, e2⟩ := get 2 (by decide)
    obtain ⟨y3, e3⟩ := get 3 (by decide)
    obtain ⟨y4, e4⟩ := get 4 (by decide)
    rw [e0, cells3] at f0
    rw [e1, cells9] at f1
    rw [e2, cells3] at f2
    rw [e3, cells3] at f3
    rw [e4, cells3] at f4
    obtain ⟨n0, g0, _, _⟩ := DataW.trod_int und3 f0
    obtain ⟨s1, g1, _, hs⟩ := DataW.trod_string und9 f1
    obtain ⟨n2, g2, _, _⟩ := DataW.trod_int und3 f2
    obtain ⟨n3, g3, _, _⟩ := DataW.trod_int und3 f3
    obtain ⟨n4, g4, _, _⟩ := DataW.trod_int und3 f4
    simp at g0 g1 g2 g3 g4
    subst g0
    subst g1
    subst g2
    subst g3
    subst g4
    refine ⟨⟨n0, s1.data.toList, n2, n3, n4⟩, by show s1.data.toList.length ≤ 9223372036854775807; rw [size_bytes]; unfold maxLen at hs; omega, rfl, by simp [encF, AV.cells, AV.one], fun j c b hj hb => ?_⟩
    match j with
    | 0 => simp [encF, AV.cells] at hj hb; subst hj; subst hb; exact .int _ _
    | 1 => simp [encF, AV.cells] at hj hb; subst hj; subst hb; exact .str _ _ rfl
    | 2 => simp [encF, AV.cells] at hj hb; subst hj; subst hb; exact .int _ _
    | 3 => simp [encF, AV.cells] at hj hb; subst hj; subst hb; exact .int _ _
    | 4 => simp [encF, AV.cells] at hj hb; subst hj; subst hb; exact .int _ _
    | j + 5 => simp at hj

theorem opens_facts {H : Type} {ec : TypeId × Value → H} {W : World} {base : Nat} {v : Value} {d : DataW H} {ps : List MemPlace} (hval : Value.okWide Try.prog W .any base 22 v) (h : DataW.Trod ec Try.prog W 0 (fun _ => true) true 22 v d ps) :
    ∃ l : List Fact, Fits l ∧ RelT (All W) W v (encFs l) := by
  obtain ⟨l, h1, h2, h3⟩ := opens_slice (d0 := f0) und22 cells24 (by decide) (fun _ => rfl) opens_fact hval h
  exact ⟨l, ⟨h2, h1⟩, h3⟩

theorem opens_factV {H : Type} {ec : TypeId × Value → H} {W : World} {base : Nat} {v : Value} {d : DataW H} {ps : List MemPlace} (hval : Value.okWide Try.prog W .any base 24 v) (h : DataW.Trod ec Try.prog W 0 (fun _ => true) true 24 v d ps) :
    ∃ f : Fact, f.name.length ≤ 9223372036854775807 ∧ RelT (All W) W v (encF f) := by
  obtain ⟨cs, rfl, _⟩ := okWide_struct und24 hval
  obtain ⟨fuel, hf⟩ := h
  obtain ⟨f, h1, h2, _, h4⟩ := opens_fact ec W fuel _ _ hf
  exact ⟨f, h1, .agg cs _ (by simpa [Value.cells, encF, AV.cells] using h2) fun j c b hj hb => h4 j c b (by simpa [Value.cells] using hj) hb⟩

theorem relTs4 {S : Blocks} {w : World} {v0 v1 v2 v3 : Value} {a0 a1 a2 a3 : AV} (h0 : RelT S w v0 a0) (h1 : RelT S w v1 a1) (h2 : RelT S w v2 a2) (h3 : RelT S w v3 a3) : RelTs S w [v0, v1, v2, v3] [a0, a1, a2, a3] := by
  refine ⟨rfl, fun j v a hj ha => ?_⟩
  match j with
  | 0 => simp at hj ha; subst hj; subst ha; exact h0
  | 1 => simp at hj ha; subst hj; subst ha; exact h1
  | 2 => simp at hj ha; subst hj; subst ha; exact h2
  | 3 => simp at hj ha; subst hj; subst ha; exact h3
  | j + 4 => simp at hj

theorem params3 : Try.f3.params = #[22, 24, 3, 3] := rfl

set_option maxRecDepth 100000 in
theorem factNow_lifted (os : Os) (started : os.Started) (H : Type) (enc : TypeId × Value → H) :
    ReturnsInHanded {} Try.checked os 3 .any (Rows.factNowSpec.pre6 enc Try.prog Try.f3 Rows.factNowRow.domain false) (Rows.factNowSpec.post enc Try.prog Try.f3 false true false false) := by
  refine returnsInHanded_of_change (C := Try.checked) Try.own started (by kernel_rfl) Try.func3
    (ChangeSpec.witness6 (enc := enc) (C := Try.checked) false ⟨#[], #[.slice none 0 0, .agg #[.int .i64 0, .string ⟨#[]⟩, .int .i64 0, .int .i64 0, .int .i64 0], .int .i64 0, .int .i64 0], []⟩ 8 (by kernel_rfl) (by kernel_rfl) (by kernel_rfl) (by kernel_rfl)) ?_
  intro W base args ds gs before hval0 hW hcnd _
  have hval : ∀ (j : Nat) t v, Try.f3.params[j]? = some t → args[j]? = some v → Value.okWide Try.prog W .any base t v := hval0
  have hW' := hW
  obtain ⟨p, q, hA0, hV, rfl, hfz, hnd⟩ := hW
  have hA : DataW.TrodAll enc Try.prog W 0 (fun _ => true) true Try.f3.params.toList args.toList ds p := hA0
  rw [params3] at hA hval
  obtain ⟨v0, v1, v2, v3, d0, d1, d2, d3, p0, p1, p2, p3, rfl, rfl, rfl, h0, h1, h2, h3⟩ := trodAll_four hA
  obtain ⟨rfl, rfl⟩ := trodVars_none hV
  obtain ⟨l, hl, r0⟩ := opens_facts (hval 0 22 v0 rfl rfl) h0
  obtain ⟨f, hf, r1⟩ := opens_factV (hval 1 24 v1 rfl rfl) h1
  obtain ⟨n2, rfl, _, _, _⟩ := open_int und3 (hval 2 3 v2 rfl rfl) h2
  obtain ⟨n3, rfl, _, _, _⟩ := open_int und3 (hval 3 3 v3 rfl rfl) h3
  exact row_of_apure Try.laidOut rfl hW' (by rw [params3]; intro t ht; simp at ht; rcases ht with rfl | rfl | rfl <;> exact ⟨by kernel_rfl, of_decide_eq_true (by kernel_rfl)⟩) rfl und4 rfl (factNow_ok l hl f hf n2 n3) (relTs4 r0 r1 (.int _ _) (.int _ _))

theorem factNow_holds : Rows.FactNowSaid :=
  OpenClaim.holds_of_wide 3 Try.f3 rfl rfl rfl rfl rfl rfl rfl ⟨rfl, rfl, rfl, rfl, rfl⟩ rfl rfl rfl rfl rfl (by kernel_rfl) Try.func3 (by kernel_rfl)
    (of_decide_eq_true (by kernel_rfl)) (by unfold Func.isWrapper; first | (rw [if_pos (by decide +kernel)]; kernel_rfl) | (rw [if_neg (by decide +kernel)]; exact ⟨rfl, rfl⟩))
    (fun os started H enc _ => factNow_lifted os started H enc)
#print axioms factNow_holds
end Go.Proofs.Ytnpnjaeobdapcaa
