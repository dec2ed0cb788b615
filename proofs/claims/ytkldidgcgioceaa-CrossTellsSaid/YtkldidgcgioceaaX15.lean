import Derived.Test.YtkldidgcgioceaaX14
import Derived.Test.YtkldidgcgioceaaOwnZ2
import Derived.KernelRfl
namespace Go.Proofs.Ytkldidgcgioceaa
open Go.ChangeShapes Go.WideShapes Go.RowKit Go.Own

theorem Try.own : ownKnob Try.prog.godebug = none := by kernel_rfl
theorem Try.laidOut : laidOutB Try.prog = true := by kernel_rfl
theorem undBool : Try.prog.underlying 4 = some .bool := by kernel_rfl
theorem und3' : Try.prog.underlying 3 = some (.int .i64) := by kernel_rfl
theorem und5' : Try.prog.underlying 5 = some (.int .u8) := by kernel_rfl
theorem und22' : Try.prog.underlying 22 = some (.slice 37) := by kernel_rfl
theorem und23' : Try.prog.underlying 23 = some (.slice 35) := by kernel_rfl
def fieldsC' : Array Field := #[{ name := "Issue", type := 3, offset := 0, embedded := false, tag := "", pkgPath := "", byteOffset := 0 }, { name := "Because", type := 3, offset := 1, embedded := false, tag := "", pkgPath := "", byteOffset := 8 }, { name := "Round", type := 3, offset := 2, embedded := false, tag := "", pkgPath := "", byteOffset := 16 }, { name := "Day", type := 3, offset := 3, embedded := false, tag := "", pkgPath := "", byteOffset := 24 }]
def fieldsD' : Array Field := #[{ name := "Issuer", type := 3, offset := 0, embedded := false, tag := "", pkgPath := "", byteOffset := 0 }, { name := "Left", type := 3, offset := 1, embedded := false, tag := "", pkgPath := "", byteOffset := 8 }, { name := "Over", type := 3, offset := 2, embedded := false, tag := "", pkgPath := "", byteOffset := 16 }, { name := "Fast", type := 3, offset := 3, embedded := false, tag := "", pkgPath := "", byteOffset := 24 }]
theorem und35' : Try.prog.underlying 35 = some (.struct fieldsC') := by kernel_rfl
theorem und37' : Try.prog.underlying 37 = some (.struct fieldsD') := by kernel_rfl
theorem in64_of {n : Int} (h : IntKind.i64.min ≤ n ∧ n ≤ IntKind.i64.max) : in64 n := by
  have e1 : IntKind.i64.min = -9223372036854775808 := by rfl
  have e2 : IntKind.i64.max = 9223372036854775807 := by rfl
  rw [e1, e2] at h
  exact h
theorem in8_of {n : Int} (h : IntKind.u8.min ≤ n ∧ n ≤ IntKind.u8.max) : 0 ≤ n ∧ n ≤ 255 := by
  have e1 : IntKind.u8.min = 0 := by rfl
  have e2 : IntKind.u8.max = 255 := by rfl
  rw [e1, e2] at h
  exact h
abbrev rInt : List AV → Prop := fun l => ∃ n, (IntKind.i64.min ≤ n ∧ n ≤ IntKind.i64.max) ∧ l = [.int .i64 n]
theorem oInt : OpensR Try.prog 3 1 rInt := opensR_int und3' (by kernel_rfl)
theorem oCau : OpensR Try.prog 35 4 (StrR [(1, rInt), (1, rInt), (1, rInt), (1, rInt)]) :=
  opensR_struct und35' (by kernel_rfl) ⟨rfl, oInt, rfl, oInt, rfl, oInt, rfl, oInt, rfl⟩
theorem oDebt : OpensR Try.prog 37 4 (StrR [(1, rInt), (1, rInt), (1, rInt), (1, rInt)]) :=
  opensR_struct und37' (by kernel_rfl) ⟨rfl, oInt, rfl, oInt, rfl, oInt, rfl, oInt, rfl⟩
def in64D (d : Debt) : Prop := (in64 d.issuer ∧ in64 d.left) ∧ in64 d.over ∧ in64 d.fast
def in64C (c : Cau) : Prop := (in64 c.issue ∧ in64 c.because) ∧ in64 c.round ∧ in64 c.day
theorem oCaus : OpensR Try.prog 23 1 (fun l => ∃ xs : List Cau, (∀ a ∈ xs, in64C a) ∧ xs.length ≤ 9223372036854775807 ∧ l = [.sl 4 encC c0 xs]) :=
  opensR_slice c0 und23' (by kernel_rfl) oCau (by decide) (fun l hl => by
    obtain ⟨_, _, ⟨n0, h0, rfl⟩, ⟨_, _, ⟨n1, h1, rfl⟩, ⟨_, _, ⟨n2, h2, rfl⟩, ⟨_, _, ⟨n3, h3, rfl⟩, rfl, rfl⟩, rfl⟩, rfl⟩, rfl⟩ := hl
    exact ⟨⟨n0, n1, n2, n3⟩, ⟨⟨in64_of h0, in64_of h1⟩, in64_of h2, in64_of h3⟩, rfl⟩) (fun _ => rfl)
theorem oDebts : OpensR Try.prog 22 1 (fun l => ∃ xs : List Debt, (∀ a ∈ xs, in64D a) ∧ xs.length ≤ 9223372036854775807 ∧ l = [.sl 4 encD d0 xs]) :=
  opensR_slice d0 und22' (by kernel_rfl) oDebt (by decide) (fun l hl => by
    obtain ⟨_, _, ⟨n0, h0, rfl⟩, ⟨_, _, ⟨n1, h1, rfl⟩, ⟨_, _, ⟨n2, h2, rfl⟩, ⟨_, _, ⟨n3, h3, rfl⟩, rfl, rfl⟩, rfl⟩, rfl⟩, rfl⟩ := hl
    exact ⟨⟨n0, n1, n2, n3⟩, ⟨⟨in64_of h0, in64_of h1⟩, in64_of h2, in64_of h3⟩, rfl⟩) (fun _ => rfl)
theorem vCaus : OpV Try.prog 23 (fun a => ∃ l : List Cau, (∀ x ∈ l, in64C x) ∧ l.length ≤ 9223372036854775807 ∧ a = encCs l) :=
  OpV.mono (opV_slice (R := fun a => ∃ xs : List Cau, (∀ x ∈ xs, in64C x) ∧ xs.length ≤ 9223372036854775807 ∧ a = .sl 4 encC c0 xs) und23' (oCaus.mono fun _ ⟨xs, h1, h2, h3⟩ => ⟨_, ⟨xs, h1, h2, rfl⟩, h3⟩)) fun _ ⟨xs, h1, h2, h3⟩ => ⟨xs, h1, h2, h3⟩
theorem vDebts : OpV Try.prog 22 (fun a => ∃ l : List Debt, (∀ x ∈ l, in64D x) ∧ l.length ≤ 9223372036854775807 ∧ a = encDs l) :=
  OpV.mono (opV_slice (R := fun a => ∃ xs : List Debt, (∀ x ∈ xs, in64D x) ∧ xs.length ≤ 9223372036854775807 ∧ a = .sl 4 encD d0 xs) und22' (oDebts.mono fun _ ⟨xs, h1, h2, h3⟩ => ⟨_, ⟨xs, h1, h2, rfl⟩, h3⟩)) fun _ ⟨xs, h1, h2, h3⟩ => ⟨xs, h1, h2, h3⟩
theorem vDebt : OpV Try.prog 37 (fun a => ∃ d : Debt, in64D d ∧ a = encD d) :=
  OpV.mono (opV_struct und37' oDebt) fun a ⟨l, hl, h⟩ => by
    obtain ⟨_, _, ⟨n0, h0, rfl⟩, ⟨_, _, ⟨n1, h1, rfl⟩, ⟨_, _, ⟨n2, h2, rfl⟩, ⟨_, _, ⟨n3, h3, rfl⟩, rfl, rfl⟩, rfl⟩, rfl⟩, rfl⟩ := hl
    exact ⟨⟨n0, n1, n2, n3⟩, ⟨⟨in64_of h0, in64_of h1⟩, in64_of h2, in64_of h3⟩, h⟩

end Go.Proofs.Ytkldidgcgioceaa
