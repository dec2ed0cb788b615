import Derived.Test.YtcabodhhdeecgaaF3
import Derived.Test.YtcabodhhdeecgaaOwnZ2
import Derived.Test.YtcabodhhdeecgaaOwnZ10
import Derived.KernelRfl
namespace Go.Proofs.Ytcabodhhdeecgaa
open Go.ChangeShapes Go.WideShapes Go.RowKit Go.Own Go.Proofs.Fav
set_option maxRecDepth 100000

theorem Try.own : ownKnob Try.prog.godebug = none := by kernel_rfl
theorem Try.laidOut : laidOutB Try.prog = true := by kernel_rfl
theorem undBool : Try.prog.underlying 4 = some .bool := by kernel_rfl
theorem und3' : Try.prog.underlying 3 = some (.int .i64) := by kernel_rfl
theorem und5' : Try.prog.underlying 5 = some (.int .u8) := by kernel_rfl
theorem und9' : Try.prog.underlying 9 = some .string := by kernel_rfl
theorem und22' : Try.prog.underlying 22 = some (.slice 48) := by kernel_rfl
theorem und23' : Try.prog.underlying 23 = some (.slice 3) := by kernel_rfl
theorem und45' : Try.prog.underlying 45 = some (.slice 9) := by kernel_rfl
theorem und44' : Try.prog.underlying 44 = some (.slice 65) := by kernel_rfl
theorem und40' : Try.prog.underlying 40 = some (.slice 112) := by kernel_rfl
theorem und46' : Try.prog.underlying 46 = some (.slice 114) := by kernel_rfl
def fields48' : Array Field := #[{ name := "Name", type := 9, offset := 0, embedded := false, tag := "", pkgPath := "", byteOffset := 0 }, { name := "Issuer", type := 9, offset := 1, embedded := false, tag := "", pkgPath := "", byteOffset := 16 }, { name := "Face", type := 3, offset := 2, embedded := false, tag := "", pkgPath := "", byteOffset := 32 }, { name := "From", type := 3, offset := 3, embedded := false, tag := "", pkgPath := "", byteOffset := 40 }, { name := "To", type := 3, offset := 4, embedded := false, tag := "", pkgPath := "", byteOffset := 48 }, { name := "Every", type := 3, offset := 5, embedded := false, tag := "", pkgPath := "", byteOffset := 56 }, { name := "Count", type := 3, offset := 6, embedded := false, tag := "", pkgPath := "", byteOffset := 64 }, { name := "Adjust", type := 3, offset := 7, embedded := false, tag := "", pkgPath := "", byteOffset := 72 }, { name := "Record", type := 3, offset := 8, embedded := false, tag := "", pkgPath := "", byteOffset := 80 }, { name := "Rank", type := 3, offset := 9, embedded := false, tag := "", pkgPath := "", byteOffset := 88 }, { name := "Lets", type := 40, offset := 10, embedded := false, tag := "", pkgPath := "", byteOffset := 96 }, { name := "Coupon", type := 43, offset := 11, embedded := false, tag := "", pkgPath := "", byteOffset := 120 }, { name := "Cap", type := 3, offset := 16, embedded := false, tag := "", pkgPath := "", byteOffset := 184 }, { name := "Covenants", type := 44, offset := 17, embedded := false, tag := "", pkgPath := "", byteOffset := 192 }, { name := "Favour", type := 45, offset := 18, embedded := false, tag := "", pkgPath := "", byteOffset := 216 }, { name := "Cross", type := 3, offset := 19, embedded := false, tag := "", pkgPath := "", byteOffset := 240 }, { name := "Calls", type := 46, offset := 20, embedded := false, tag := "", pkgPath := "", byteOffset := 248 }, { name := "Notice", type := 3, offset := 21, embedded := false, tag := "", pkgPath := "", byteOffset := 272 }, { name := "Sink", type := 3, offset := 22, embedded := false, tag := "", pkgPath := "", byteOffset := 280 }, { name := "Majority", type := 3, offset := 23, embedded := false, tag := "", pkgPath := "", byteOffset := 288 }, { name := "Fast", type := 3, offset := 24, embedded := false, tag := "", pkgPath := "", byteOffset := 296 }]
theorem und48' : Try.prog.underlying 48 = some (.struct fields48') := by kernel_rfl
def fields65' : Array Field := #[{ name := "Name", type := 9, offset := 0, embedded := false, tag := "", pkgPath := "", byteOffset := 0 }, { name := "Must", type := 43, offset := 1, embedded := false, tag := "", pkgPath := "", byteOffset := 16 }, { name := "Grace", type := 3, offset := 6, embedded := false, tag := "", pkgPath := "", byteOffset := 80 }]
theorem und65' : Try.prog.underlying 65 = some (.struct fields65') := by kernel_rfl
def fields43' : Array Field := #[{ name := "Op", type := 3, offset := 0, embedded := false, tag := "", pkgPath := "", byteOffset := 0 }, { name := "N", type := 3, offset := 1, embedded := false, tag := "", pkgPath := "", byteOffset := 8 }, { name := "Unit", type := 3, offset := 2, embedded := false, tag := "", pkgPath := "", byteOffset := 16 }, { name := "S", type := 9, offset := 3, embedded := false, tag := "", pkgPath := "", byteOffset := 24 }, { name := "Args", type := 41, offset := 4, embedded := false, tag := "", pkgPath := "", byteOffset := 40 }]
theorem und43' : Try.prog.underlying 43 = some (.struct fields43') := by kernel_rfl
theorem und41' : Try.prog.underlying 41 = some (.slice 43) := by kernel_rfl
abbrev rA : List AV → Prop := fun l => l = [.any1]
abbrev rInt : List AV → Prop := fun l => ∃ n, (IntKind.i64.min ≤ n ∧ n ≤ IntKind.i64.max) ∧ l = [.int .i64 n]
abbrev rStr : List AV → Prop := fun l => ∃ s : List UInt8, s.length ≤ 9223372036854775807 ∧ l = [.str s]
theorem oInt : OpensR Try.prog 3 1 rInt := opensR_int und3' (by kernel_rfl)
theorem oStr : OpensR Try.prog 9 1 rStr := opensR_str und9' (by kernel_rfl)
theorem aInt : OpensR Try.prog 3 1 rA := opensR_any oInt
theorem aStr : OpensR Try.prog 9 1 rA := opensR_any oStr
theorem a40 : OpensR Try.prog 40 1 rA := opensR_sliceAny und40' (by kernel_rfl)
theorem a41 : OpensR Try.prog 41 1 rA := opensR_sliceAny und41' (by kernel_rfl)
theorem a46 : OpensR Try.prog 46 1 rA := opensR_sliceAny und46' (by kernel_rfl)
theorem aExp : OpensR Try.prog 43 5 (StrR [(1, rA), (1, rA), (1, rA), (1, rA), (1, rA)]) :=
  opensR_struct und43' (by kernel_rfl) ⟨rfl, aInt, rfl, aInt, rfl, aInt, rfl, aStr, rfl, a41, rfl⟩
theorem aExp' : OpensR Try.prog 43 5 (fun l => l = [.any1, .any1, .any1, .any1, .any1]) := aExp.mono fun l hl => by
  obtain ⟨_, _, rfl, ⟨_, _, rfl, ⟨_, _, rfl, ⟨_, _, rfl, ⟨_, _, rfl, rfl, rfl⟩, rfl⟩, rfl⟩, rfl⟩, rfl⟩ := hl
  rfl
theorem oCov : OpensR Try.prog 65 7 (StrR [(1, rA), (5, fun l => l = [.any1, .any1, .any1, .any1, .any1]), (1, rA)]) :=
  opensR_struct und65' (by kernel_rfl) ⟨rfl, aStr, rfl, aExp', rfl, aInt, rfl⟩
theorem oCovs : OpensR Try.prog 44 1 (fun l => ∃ n : Nat, l = [.sl 7 encU () (List.replicate n ())]) :=
  (opensR_slice (enc := encU) (ok := fun _ => True) () und44' (by kernel_rfl) oCov (by decide) (fun l hl => by
    obtain ⟨_, _, rfl, ⟨_, _, rfl, ⟨_, _, rfl, rfl, rfl⟩, rfl⟩, rfl⟩ := hl
    exact ⟨(), trivial, rfl⟩) (fun _ => rfl)).mono fun l ⟨xs, _, _, h⟩ => ⟨xs.length, by rw [h, ← units_eq]⟩
def encSs (l : List (List UInt8)) : AV := .sl 1 encS [] l
theorem oStrs : OpensR Try.prog 45 1 (fun l => ∃ xs : List (List UInt8), (∀ a ∈ xs, a.length ≤ 9223372036854775807) ∧ xs.length ≤ 9223372036854775807 ∧ l = [.sl 1 encS [] xs]) :=
  opensR_slice [] und45' (by kernel_rfl) oStr (by decide) (fun l ⟨s, h, e⟩ => ⟨s, h, by rw [e]; rfl⟩) (fun _ => rfl)
theorem oIss : OpensR Try.prog 48 25 (StrR [(1, rStr), (1, rA), (1, rA), (1, rA), (1, rA), (1, rA), (1, rA), (1, rA), (1, rA), (1, rA), (1, rA), (5, fun l => l = [.any1, .any1, .any1, .any1, .any1]), (1, rA), (1, fun l => ∃ n : Nat, l = [.sl 7 encU () (List.replicate n ())]),
    (1, fun l => ∃ xs : List (List UInt8), (∀ a ∈ xs, a.length ≤ 9223372036854775807) ∧ xs.length ≤ 9223372036854775807 ∧ l = [.sl 1 encS [] xs]), (1, rA), (1, rA), (1, rA), (1, rA), (1, rA), (1, rA)]) :=
  opensR_struct und48' (by kernel_rfl) ⟨rfl, oStr, rfl, aStr, rfl, aInt, rfl, aInt, rfl, aInt, rfl, aInt, rfl, aInt, rfl, aInt, rfl, aInt, rfl, aInt, rfl, a40, rfl, aExp', rfl, aInt, rfl, oCovs, rfl, oStrs, rfl, aInt, rfl, a46, rfl, aInt, rfl, aInt, rfl, aInt, rfl, aInt, rfl⟩
theorem oIsss : OpensR Try.prog 22 1 (fun l => ∃ xs : List J, (∀ a ∈ xs, a.fav.length ≤ 9223372036854775807) ∧ xs.length ≤ 9223372036854775807 ∧ l = [.sl 25 encJ j0 xs]) :=
  opensR_slice j0 und22' (by kernel_rfl) oIss (by decide) (fun l hl => by
    obtain ⟨_, _, ⟨nm, _, rfl⟩, ⟨_, _, rfl, ⟨_, _, rfl, ⟨_, _, rfl, ⟨_, _, rfl, ⟨_, _, rfl, ⟨_, _, rfl, ⟨_, _, rfl, ⟨_, _, rfl, ⟨_, _, rfl, ⟨_, _, rfl, ⟨_, _, rfl, ⟨_, _, rfl, ⟨_, _, ⟨n, rfl⟩, ⟨_, _, ⟨fs, _, hf, rfl⟩, ⟨_, _, rfl, ⟨_, _, rfl, ⟨_, _, rfl, ⟨_, _, rfl, ⟨_, _, rfl, ⟨_, _, rfl, rfl, rfl⟩, rfl⟩, rfl⟩, rfl⟩, rfl⟩, rfl⟩, rfl⟩, rfl⟩, rfl⟩, rfl⟩, rfl⟩, rfl⟩, rfl⟩, rfl⟩, rfl⟩, rfl⟩, rfl⟩, rfl⟩, rfl⟩, rfl⟩, rfl⟩ := hl
    exact ⟨⟨nm, n, fs⟩, hf, rfl⟩) (fun _ => rfl)
theorem vIsss : OpV Try.prog 22 (fun a => ∃ l : List J, (∀ x ∈ l, x.fav.length ≤ 9223372036854775807) ∧ l.length ≤ 9223372036854775807 ∧ a = encJs l) :=
  OpV.mono (opV_slice (R := fun a => ∃ xs : List J, (∀ x ∈ xs, x.fav.length ≤ 9223372036854775807) ∧ xs.length ≤ 9223372036854775807 ∧ a = .sl 25 encJ j0 xs) und22' (oIsss.mono fun _ ⟨xs, h1, h2, h3⟩ => ⟨_, ⟨xs, h1, h2, rfl⟩, h3⟩)) fun _ ⟨xs, h1, h2, h3⟩ => ⟨xs, h1, h2, h3⟩
theorem vInts : OpV Try.prog 23 (fun a => ∃ l : List Int, l.length ≤ 9223372036854775807 ∧ a = encIs l) :=
  OpV.mono (opV_slice (R := fun a => ∃ xs : List Int, xs.length ≤ 9223372036854775807 ∧ a = .sl 1 encI 0 xs) und23' ((opensR_slice (enc := encI) (ok := fun _ => True) 0 und23' (by kernel_rfl) oInt (by decide) (fun l ⟨n, _, e⟩ => ⟨n, trivial, by rw [e]; rfl⟩) (fun _ => rfl)).mono fun _ ⟨xs, _, h2, h3⟩ => ⟨_, ⟨xs, h2, rfl⟩, h3⟩)) fun _ ⟨xs, h2, h3⟩ => ⟨xs, h2, h3⟩
theorem vInt : OpV Try.prog 3 (fun a => ∃ n, (IntKind.i64.min ≤ n ∧ n ≤ IntKind.i64.max) ∧ a = .int .i64 n) := opV_int und3'
theorem vByte : OpV Try.prog 5 (fun a => ∃ n, (IntKind.u8.min ≤ n ∧ n ≤ IntKind.u8.max) ∧ a = .int .u8 n) := opV_int und5'
theorem in8_of {n : Int} (h : IntKind.u8.min ≤ n ∧ n ≤ IntKind.u8.max) : 0 ≤ n ∧ n ≤ 255 := by
  have e1 : IntKind.u8.min = 0 := by rfl
  have e2 : IntKind.u8.max = 255 := by rfl
  rw [e1, e2] at h
  exact h

end Go.Proofs.Ytcabodhhdeecgaa
