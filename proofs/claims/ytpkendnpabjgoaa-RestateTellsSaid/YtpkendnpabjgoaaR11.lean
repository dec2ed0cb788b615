import Derived.Test.YtpkendnpabjgoaaR10
import Derived.Test.YtpkendnpabjgoaaOwnZ2
import Derived.KernelRfl
namespace Go.Proofs.Ytpkendnpabjgoaa
open Go.ChangeShapes Go.WideShapes Go.RowKit Go.Own

theorem Try.own : ownKnob Try.prog.godebug = none := by kernel_rfl
theorem Try.laidOut : laidOutB Try.prog = true := by kernel_rfl
theorem undBool : Try.prog.underlying 4 = some .bool := by kernel_rfl
theorem und3' : Try.prog.underlying 3 = some (.int .i64) := by kernel_rfl
theorem und5' : Try.prog.underlying 5 = some (.int .u8) := by kernel_rfl
theorem und22' : Try.prog.underlying 22 = some (.slice 38) := by kernel_rfl
theorem und23' : Try.prog.underlying 23 = some (.slice 3) := by kernel_rfl
theorem und24' : Try.prog.underlying 24 = some (.slice 44) := by kernel_rfl
theorem und25' : Try.prog.underlying 25 = some (.slice 4) := by kernel_rfl
def fieldsP' : Array Field := #[{ name := "Issue", type := 3, offset := 0, embedded := false, tag := "", pkgPath := "", byteOffset := 0 }, { name := "Seat", type := 3, offset := 1, embedded := false, tag := "", pkgPath := "", byteOffset := 8 }, { name := "Day", type := 3, offset := 2, embedded := false, tag := "", pkgPath := "", byteOffset := 16 }, { name := "Due", type := 3, offset := 3, embedded := false, tag := "", pkgPath := "", byteOffset := 24 }, { name := "Paid", type := 3, offset := 4, embedded := false, tag := "", pkgPath := "", byteOffset := 32 }, { name := "Period", type := 3, offset := 5, embedded := false, tag := "", pkgPath := "", byteOffset := 40 }]
def fieldsV' : Array Field := #[{ name := "From", type := 23, offset := 0, embedded := false, tag := "", pkgPath := "", byteOffset := 0 }, { name := "Facts", type := 23, offset := 1, embedded := false, tag := "", pkgPath := "", byteOffset := 24 }]
theorem und44' : Try.prog.underlying 44 = some (.struct fieldsP') := by kernel_rfl
theorem und38' : Try.prog.underlying 38 = some (.struct fieldsV') := by kernel_rfl

def in64 (n : Int) : Prop := -9223372036854775808 ≤ n ∧ n ≤ 9223372036854775807
theorem in64_of {n : Int} (h : IntKind.i64.min ≤ n ∧ n ≤ IntKind.i64.max) : in64 n := by
  have e1 : IntKind.i64.min = -9223372036854775808 := by rfl
  have e2 : IntKind.i64.max = 9223372036854775807 := by rfl
  rw [e1, e2] at h
  exact h
theorem in8_of {n : Int} (h : IntKind.u8.min ≤ n ∧ n ≤ IntKind.u8.max) : 0 ≤ n ∧ n ≤ 255 := by
  have e1 : IntKind.u8.min = 0 := by rfl
  have e2 : IntKind.u8.max = 255 := by rfl
  rw [e1, e2] at h
  exact h

abbrev rInt : List AV → Prop := fun l => ∃ n, (IntKind.i64.min ≤ n ∧ n ≤ IntKind.i64.max) ∧ l = [.int .i64 n]
theorem oInt : OpensR Try.prog 3 1 rInt := opensR_int und3' (by kernel_rfl)
theorem oBool : OpensR Try.prog 4 1 (fun l => ∃ b, l = [.bool b]) := opensR_bool undBool (by kernel_rfl)

abbrev rInts : List AV → Prop := fun l => ∃ xs : List Int, (∀ a ∈ xs, in64 a) ∧ xs.length ≤ 9223372036854775807 ∧ l = [.sl 1 encI 0 xs]
theorem oInts : OpensR Try.prog 23 1 rInts :=
  opensR_slice 0 und23' (by kernel_rfl) oInt (by decide) (fun l ⟨n, hn, h⟩ => ⟨n, in64_of hn, h.symm⟩) (fun _ => rfl)
theorem vInts : OpV Try.prog 23 (fun a => ∃ l : List Int, (∀ x ∈ l, in64 x) ∧ l.length ≤ 9223372036854775807 ∧ a = encIs l) :=
  OpV.mono (opV_slice (R := fun a => ∃ xs : List Int, (∀ x ∈ xs, in64 x) ∧ xs.length ≤ 9223372036854775807 ∧ a = .sl 1 encI 0 xs) und23' (oInts.mono fun l ⟨xs, h1, h2, h3⟩ => ⟨_, ⟨xs, h1, h2, rfl⟩, h3⟩)) fun a ⟨xs, h1, h2, h3⟩ => ⟨xs, h1, h2, h3⟩

theorem oBools : OpensR Try.prog 25 1 (fun l => ∃ xs : List Bool, (∀ a ∈ xs, True) ∧ xs.length ≤ 9223372036854775807 ∧ l = [.sl 1 encB false xs]) :=
  opensR_slice false und25' (by kernel_rfl) oBool (by decide) (fun l ⟨b, h⟩ => ⟨b, trivial, h.symm⟩) (fun _ => rfl)
theorem vBools : OpV Try.prog 25 (fun a => ∃ l : List Bool, l.length ≤ 9223372036854775807 ∧ a = encBs l) :=
  OpV.mono (opV_slice (R := fun a => ∃ xs : List Bool, xs.length ≤ 9223372036854775807 ∧ a = .sl 1 encB false xs) und25' (oBools.mono fun l ⟨xs, _, h2, h3⟩ => ⟨_, ⟨xs, h2, rfl⟩, h3⟩)) fun a ⟨xs, h2, h3⟩ => ⟨xs, h2, h3⟩

theorem oPay : OpensR Try.prog 44 6 (StrR [(1, rInt), (1, rInt), (1, rInt), (1, rInt), (1, rInt), (1, rInt)]) :=
  opensR_struct und44' (by kernel_rfl) ⟨rfl, oInt, rfl, oInt, rfl, oInt, rfl, oInt, rfl, oInt, rfl, oInt, rfl⟩
theorem oPays : OpensR Try.prog 24 1 (fun l => ∃ xs : List Pay, (∀ a ∈ xs, in64 a.seat ∧ in64 a.paid) ∧ xs.length ≤ 9223372036854775807 ∧ l = [.sl 6 encP p0 xs]) :=
  opensR_slice p0 und24' (by kernel_rfl) oPay (by decide) (fun l hl => by
    obtain ⟨_, _, ⟨n0, h0, rfl⟩, ⟨_, _, ⟨n1, h1, rfl⟩, ⟨_, _, ⟨n2, _, rfl⟩, ⟨_, _, ⟨n3, _, rfl⟩, ⟨_, _, ⟨n4, h4, rfl⟩, ⟨_, _, ⟨n5, _, rfl⟩, rfl, rfl⟩, rfl⟩, rfl⟩, rfl⟩, rfl⟩, rfl⟩ := hl
    exact ⟨⟨n0, n1, n2, n3, n4, n5⟩, ⟨in64_of h1, in64_of h4⟩, rfl⟩) (fun _ => rfl)
theorem vPays : OpV Try.prog 24 (fun a => ∃ l : List Pay, (∀ x ∈ l, in64 x.seat ∧ in64 x.paid) ∧ l.length ≤ 9223372036854775807 ∧ a = encPs l) :=
  OpV.mono (opV_slice (R := fun a => ∃ xs : List Pay, (∀ x ∈ xs, in64 x.seat ∧ in64 x.paid) ∧ xs.length ≤ 9223372036854775807 ∧ a = .sl 6 encP p0 xs) und24' (oPays.mono fun l ⟨xs, h1, h2, h3⟩ => ⟨_, ⟨xs, h1, h2, rfl⟩, h3⟩)) fun a ⟨xs, h1, h2, h3⟩ => ⟨xs, h1, h2, h3⟩

def inV (v : Val) : Prop := ((∀ x ∈ v.froms, in64 x) ∧ ∀ x ∈ v.facts, in64 x) ∧ (v.froms.length ≤ 9223372036854775807 ∧ v.facts.length ≤ 9223372036854775807)
theorem oVal : OpensR Try.prog 38 2 (StrR [(1, rInts), (1, rInts)]) :=
  opensR_struct und38' (by kernel_rfl) ⟨rfl, oInts, rfl, oInts, rfl⟩
theorem oVals : OpensR Try.prog 22 1 (fun l => ∃ xs : List Val, (∀ a ∈ xs, inV a) ∧ xs.length ≤ 9223372036854775807 ∧ l = [.sl 2 encV v0 xs]) :=
  opensR_slice v0 und22' (by kernel_rfl) oVal (by decide) (fun l hl => by
    obtain ⟨_, _, ⟨n0, h0, g0, rfl⟩, ⟨_, _, ⟨n1, h1, g1, rfl⟩, rfl, rfl⟩, rfl⟩ := hl
    exact ⟨⟨n0, n1⟩, ⟨⟨h0, h1⟩, g0, g1⟩, rfl⟩) (fun _ => rfl)
theorem vVals : OpV Try.prog 22 (fun a => ∃ l : List Val, (∀ x ∈ l, inV x) ∧ FitsV l ∧ a = encVs l) :=
  OpV.mono (opV_slice (R := fun a => ∃ xs : List Val, (∀ x ∈ xs, inV x) ∧ xs.length ≤ 9223372036854775807 ∧ a = .sl 2 encV v0 xs) und22' (oVals.mono fun l ⟨xs, h1, h2, h3⟩ => ⟨_, ⟨xs, h1, h2, rfl⟩, h3⟩)) fun a ⟨xs, h1, h2, h3⟩ => ⟨xs, h1, ⟨h2, fun v hv => (h1 v hv).2⟩, h3⟩

end Go.Proofs.Ytpkendnpabjgoaa
