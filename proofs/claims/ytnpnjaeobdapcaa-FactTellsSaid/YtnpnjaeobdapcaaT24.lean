/-
  The statement FactTells of the layer of facts holds: for all inputs the law returns true, and each argument reads as before. No conditions.
-/
import Derived.Test.YtnpnjaeobdapcaaT23
import Derived.Test.YtnpnjaeobdapcaaOwnZ2
import Derived.Test.YtnpnjaeobdapcaaRows
import Derived.KernelRfl
namespace Go.Proofs.Ytnpnjaeobdapcaa
open Go.ChangeShapes Go.WideShapes Go.RowKit Go.Own

theorem Try.own : ownKnob Try.prog.godebug = none := by kernel_rfl
theorem Try.laidOut : laidOutB Try.prog = true := by kernel_rfl
theorem undBool : Try.prog.underlying 4 = some .bool := by kernel_rfl
theorem und3' : Try.prog.underlying 3 = some (.int .i64) := by kernel_rfl
theorem und9' : Try.prog.underlying 9 = some .string := by kernel_rfl
theorem und22' : Try.prog.underlying 22 = some (.slice 24) := by kernel_rfl
def fieldsF' : Array Field := #[{ name := "Issuer", type := 3, offset := 0, embedded := false, tag := "", pkgPath := "", byteOffset := 0 }, { name := "Name", type := 9, offset := 1, embedded := false, tag := "", pkgPath := "", byteOffset := 8 }, { name := "Period", type := 3, offset := 2, embedded := false, tag := "", pkgPath := "", byteOffset := 24 }, { name := "Value", type := 3, offset := 3, embedded := false, tag := "", pkgPath := "", byteOffset := 32 }, { name := "Day", type := 3, offset := 4, embedded := false, tag := "", pkgPath := "", byteOffset := 40 }]
theorem und24' : Try.prog.underlying 24 = some (.struct fieldsF') := by kernel_rfl
theorem oInt : OpensR Try.prog 3 1 (fun l => ∃ n, (IntKind.i64.min ≤ n ∧ n ≤ IntKind.i64.max) ∧ l = [.int .i64 n]) := opensR_int und3' (by kernel_rfl)
theorem oStr : OpensR Try.prog 9 1 (fun l => ∃ s : List UInt8, s.length ≤ 9223372036854775807 ∧ l = [.str s]) := opensR_str und9' (by kernel_rfl)
theorem oFact : OpensR Try.prog 24 5 (StrR [(1, fun l => ∃ n, (IntKind.i64.min ≤ n ∧ n ≤ IntKind.i64.max) ∧ l = [.int .i64 n]), (1, fun l => ∃ s : List UInt8, s.length ≤ 9223372036854775807 ∧ l = [.str s]), (1, fun l => ∃ n, (IntKind.i64.min ≤ n ∧ n ≤ IntKind.i64.max) ∧ l = [.int .i64 n]), (1, fun l => ∃ n, (IntKind.i64.min ≤ n ∧ n ≤ IntKind.i64.max) ∧ l = [.int .i64 n]), (1, fun l => ∃ n, (IntKind.i64.min ≤ n ∧ n ≤ IntKind.i64.max) ∧ l = [.int .i64 n])]) :=
  opensR_struct und24' (by kernel_rfl) ⟨rfl, oInt, rfl, oStr, rfl, oInt, rfl, oInt, rfl, oInt, rfl⟩
theorem oFacts : OpensR Try.prog 22 1 (fun l => ∃ xs : List Fact, (∀ a ∈ xs, a.name.length ≤ 9223372036854775807) ∧ xs.length ≤ 9223372036854775807 ∧ l = [.sl 5 encF f0 xs]) :=
  opensR_slice f0 und22' (by kernel_rfl) oFact (by decide) (fun l hl => by
    obtain ⟨_, _, ⟨n0, _, rfl⟩, ⟨_, _, ⟨s1, h1, rfl⟩, ⟨_, _, ⟨n2, _, rfl⟩, ⟨_, _, ⟨n3, _, rfl⟩, ⟨_, _, ⟨n4, _, rfl⟩, rfl, rfl⟩, rfl⟩, rfl⟩, rfl⟩, rfl⟩ := hl
    exact ⟨⟨n0, s1, n2, n3, n4⟩, h1, rfl⟩) (fun _ => rfl)
theorem vFacts : OpV Try.prog 22 (fun a => ∃ l : List Fact, Fits l ∧ a = encFs l) :=
  OpV.mono (opV_slice (R := fun a => ∃ xs : List Fact, (∀ a ∈ xs, a.name.length ≤ 9223372036854775807) ∧ xs.length ≤ 9223372036854775807 ∧ a = .sl 5 encF f0 xs) und22' (oFacts.mono fun l ⟨xs, h1, h2, h3⟩ => ⟨_, ⟨xs, h1, h2, rfl⟩, h3⟩)) fun a ⟨xs, h1, h2, h3⟩ => ⟨xs, ⟨h2, h1⟩, h3⟩

theorem vFact : OpV Try.prog 24 (fun a => ∃ f : Fact, f.name.length ≤ 9223372036854775807 ∧ a = encF f) :=
  OpV.mono (opV_struct und24' oFact) fun a ⟨l, hl, h⟩ => by
    obtain ⟨_, _, ⟨n0, _, rfl⟩, ⟨_, _, ⟨s1, h1, rfl⟩, ⟨_, _, ⟨n2, _, rfl⟩, ⟨_, _, ⟨n3, _, rfl⟩, ⟨_, _, ⟨n4, _, rfl⟩, rfl, rfl⟩, rfl⟩, rfl⟩, rfl⟩, rfl⟩ := hl
    exact ⟨⟨n0, s1, n2, n3, n4⟩, h1, h⟩

set_option maxRecDepth 100000 in
theorem factTells_lifted (os : Os) (started : os.Started) (H : Type) (enc : TypeId × Value → H) :
    ReturnsInHanded {} Try.checked os 5 .any (Rows.factTellsSpec.pre6 enc Try.prog Try.f5 Rows.factTellsRow.domain false) (Rows.factTellsSpec.post enc Try.prog Try.f5 false true false false) :=
  row_lifted (C := Try.checked) (P := Try.prog) rfl Try.own started (by kernel_rfl) Try.func5
    (ChangeSpec.witness6 (enc := enc) (C := Try.checked) false ⟨#[], #[.slice none 0 0, .agg #[.int .i64 0, .string ⟨#[]⟩, .int .i64 0, .int .i64 0, .int .i64 0], .int .i64 0, .int .i64 0, .int .i64 0], []⟩ 8 (by kernel_rfl) (by kernel_rfl) (by kernel_rfl) (by kernel_rfl))
    Try.laidOut rfl (by kernel_rfl) rfl undBool (fun ds hd => by
      match ds, hd with
      | [d0, d1, d2, d3, d4], _ => rfl)
    (Qs := [_, _, _, _, _]) ⟨vFacts, vFact, opV_int und3', opV_int und3', opV_int und3', trivial⟩
    (fun avs hA0 => by
      obtain ⟨_, _, rfl, ⟨l, hl, rfl⟩, hA1⟩ := alls_cons hA0
      obtain ⟨_, _, rfl, ⟨f, hf, rfl⟩, hA2⟩ := alls_cons hA1
      obtain ⟨_, _, rfl, ⟨n1, _, rfl⟩, hA3⟩ := alls_cons hA2
      obtain ⟨_, _, rfl, ⟨n2, _, rfl⟩, hA4⟩ := alls_cons hA3
      obtain ⟨_, _, rfl, ⟨n3, _, rfl⟩, hA5⟩ := alls_cons hA4
      obtain rfl := alls_nil hA5
      exact law_tells l hl f hf n1 n2 n3)

theorem factTells_holds : Rows.FactTellsSaid :=
  OpenClaim.holds_of_wide 5 Try.f5 rfl rfl rfl rfl rfl rfl rfl ⟨rfl, rfl, rfl, rfl, rfl⟩ rfl rfl rfl rfl rfl (by kernel_rfl) Try.func5 (by kernel_rfl)
    (of_decide_eq_true (by kernel_rfl)) (by unfold Func.isWrapper; first | (rw [if_pos (by decide +kernel)]; kernel_rfl) | (rw [if_neg (by decide +kernel)]; exact ⟨rfl, rfl⟩))
    (fun os started H enc _ => factTells_lifted os started H enc)
#print axioms factTells_holds
end Go.Proofs.Ytnpnjaeobdapcaa
