import Derived.Test.YtohankpncipefaaD8
import Derived.Test.YtohankpncipefaaOwnZ2
import Derived.Test.YtohankpncipefaaRows
import Derived.KernelRfl
namespace Go.Proofs.Ytohankpncipefaa
open Go.ChangeShapes Go.WideShapes Go.RowKit Go.Own

theorem Try.own : ownKnob Try.prog.godebug = none := by kernel_rfl
theorem Try.laidOut : laidOutB Try.prog = true := by kernel_rfl
theorem undBool : Try.prog.underlying 4 = some .bool := by kernel_rfl
theorem und3 : Try.prog.underlying 3 = some (.int .i64) := by kernel_rfl
theorem und32 : Try.prog.underlying 32 = some (.int .u32) := by kernel_rfl
theorem und9 : Try.prog.underlying 9 = some .string := by kernel_rfl
theorem und22 : Try.prog.underlying 22 = some (.slice 9) := by kernel_rfl
theorem und23 : Try.prog.underlying 23 = some (.slice 35) := by kernel_rfl
def fieldsC : Array Field := #[{ name := "Old", type := 3, offset := 0, embedded := false, tag := "", pkgPath := "", byteOffset := 0 }, { name := "New", type := 3, offset := 1, embedded := false, tag := "", pkgPath := "", byteOffset := 8 }]
theorem und35 : Try.prog.underlying 35 = some (.struct fieldsC) := by kernel_rfl
theorem oInt : OpensR Try.prog 3 1 (fun l => ∃ n, (IntKind.i64.min ≤ n ∧ n ≤ IntKind.i64.max) ∧ l = [.int .i64 n]) := opensR_int und3 (by kernel_rfl)
theorem oStr : OpensR Try.prog 9 1 (fun l => ∃ s : List UInt8, s.length ≤ 9223372036854775807 ∧ l = [.str s]) := opensR_str und9 (by kernel_rfl)
theorem oChg : OpensR Try.prog 35 2 (StrR [(1, fun l => ∃ n, (IntKind.i64.min ≤ n ∧ n ≤ IntKind.i64.max) ∧ l = [.int .i64 n]), (1, fun l => ∃ n, (IntKind.i64.min ≤ n ∧ n ≤ IntKind.i64.max) ∧ l = [.int .i64 n])]) :=
  opensR_struct und35 (by kernel_rfl) ⟨rfl, oInt, rfl, oInt, rfl⟩
theorem oStrs : OpensR Try.prog 22 1 (fun l => ∃ xs : List (List UInt8), (∀ a ∈ xs, a.length ≤ 9223372036854775807) ∧ xs.length ≤ 9223372036854775807 ∧ l = [.sl 1 encS [] xs]) :=
  opensR_slice [] und22 (by kernel_rfl) oStr (by decide) (fun l ⟨s, h1, h2⟩ => ⟨s, h1, h2.symm⟩) (fun _ => rfl)
theorem oChgs : OpensR Try.prog 23 1 (fun l => ∃ xs : List Chg, (∀ a ∈ xs, True) ∧ xs.length ≤ 9223372036854775807 ∧ l = [.sl 2 encC c0 xs]) :=
  opensR_slice c0 und23 (by kernel_rfl) oChg (by decide) (fun l hl => by
    obtain ⟨_, _, ⟨n0, _, rfl⟩, ⟨_, _, ⟨n1, _, rfl⟩, rfl, rfl⟩, rfl⟩ := hl
    exact ⟨⟨n0, n1⟩, trivial, rfl⟩) (fun _ => rfl)
theorem vStrs : OpV Try.prog 22 (fun a => ∃ l : List (List UInt8), l.length ≤ 9223372036854775807 ∧ a = encSs l) :=
  opV_slice und22 (oStrs.mono fun _ ⟨xs, _, h2, h3⟩ => ⟨_, ⟨xs, h2, rfl⟩, h3⟩)
theorem vChgs : OpV Try.prog 23 (fun a => ∃ l : List Chg, l.length ≤ 9223372036854775807 ∧ a = encCs l) :=
  opV_slice und23 (oChgs.mono fun _ ⟨xs, _, h2, h3⟩ => ⟨_, ⟨xs, h2, rfl⟩, h3⟩)
end Go.Proofs.Ytohankpncipefaa
