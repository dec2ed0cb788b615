/-
  What the rows of the ledger share: how parameters are opened, and a world in which the listed tables lie.
-/
import Derived.Test.YtglalejjcfcfkaaDoorL1
import Derived.Test.YtglalejjcfcfkaaDoorL3
import Derived.Test.YtglalejjcfcfkaaDoorOwnZ9
import Derived.KernelRfl
import Derived.Test.YtglalejjcfcfkaaDoorRows
namespace Go.Proofs.YtglalejjcfcfkaaDoor
open Go.ChangeShapes Go.WideShapes Go.RowKit Go.Own

theorem Tryd.own : ownKnob Tryd.prog.godebug = none := by kernel_rfl
theorem Tryd.laidOut : laidOutB Tryd.prog = true := by kernel_rfl
theorem undBool : Tryd.prog.underlying 4 = some .bool := by kernel_rfl
theorem und3' : Tryd.prog.underlying 3 = some (.int .i64) := by kernel_rfl
theorem und5' : Tryd.prog.underlying 5 = some (.int .u8) := by kernel_rfl
theorem und22' : Tryd.prog.underlying 22 = some (.slice 28) := by kernel_rfl
def fieldsE' : Array Field := #[{ name := "Id", type := 3, offset := 0, embedded := false, tag := "", pkgPath := "", byteOffset := 0 }, { name := "Day", type := 3, offset := 1, embedded := false, tag := "", pkgPath := "", byteOffset := 8 }, { name := "From", type := 3, offset := 2, embedded := false, tag := "", pkgPath := "", byteOffset := 16 }, { name := "To", type := 3, offset := 3, embedded := false, tag := "", pkgPath := "", byteOffset := 24 }, { name := "Amount", type := 3, offset := 4, embedded := false, tag := "", pkgPath := "", byteOffset := 32 }]
theorem und28' : Tryd.prog.underlying 28 = some (.struct fieldsE') := by kernel_rfl
def in64 (n : Int) : Prop := -9223372036854775808 ≤ n ∧ n ≤ 9223372036854775807
theorem in64_of {n : Int} (h : IntKind.i64.min ≤ n ∧ n ≤ IntKind.i64.max) : in64 n := by
  have e1 : IntKind.i64.min = -9223372036854775808 := by rfl
  have e2 : IntKind.i64.max = 9223372036854775807 := by rfl
  rw [e1, e2] at h
  exact h
theorem in8_of {n : Int} (h : IntKind.u8.min ≤ n ∧ n ≤ IntKind.u8.max) : 0 ≤ n ∧ n ≤ 255 := by
  have e1 : IntKind.u8.min = 0 := by rfl
  have e2 : IntKind.u8.max = 255 := by rfl
  rw [e1, e2] at h
  exact h
abbrev rInt : List AV → Prop := fun l => ∃ n, (IntKind.i64.min ≤ n ∧ n ≤ IntKind.i64.max) ∧ l = [.int .i64 n]
theorem oInt : OpensR Tryd.prog 3 1 rInt := opensR_int und3' (by kernel_rfl)
theorem oEnt : OpensR Tryd.prog 28 5 (StrR [(1, rInt), (1, rInt), (1, rInt), (1, rInt), (1, rInt)]) :=
  opensR_struct und28' (by kernel_rfl) ⟨rfl, oInt, rfl, oInt, rfl, oInt, rfl, oInt, rfl, oInt, rfl⟩
def in64E (e : Ent) : Prop := ((in64 e.id ∧ in64 e.day) ∧ in64 e.frm ∧ in64 e.to) ∧ in64 e.amt
theorem oEnts : OpensR Tryd.prog 22 1 (fun l => ∃ xs : List Ent, (∀ a ∈ xs, in64E a) ∧ xs.length ≤ 9223372036854775807 ∧ l = [.sl 5 encE e0 xs]) :=
  opensR_slice e0 und22' (by kernel_rfl) oEnt (by decide) (fun l hl => by
    obtain ⟨_, _, ⟨n0, h0, rfl⟩, ⟨_, _, ⟨n1, h1, rfl⟩, ⟨_, _, ⟨n2, h2, rfl⟩, ⟨_, _, ⟨n3, h3, rfl⟩, ⟨_, _, ⟨n4, h4, rfl⟩, rfl, rfl⟩, rfl⟩, rfl⟩, rfl⟩, rfl⟩ := hl
    exact ⟨⟨n0, n1, n2, n3, n4⟩, ⟨⟨⟨in64_of h0, in64_of h1⟩, in64_of h2, in64_of h3⟩, in64_of h4⟩, rfl⟩) (fun _ => rfl)
theorem vEnts : OpV Tryd.prog 22 (fun a => ∃ l : List Ent, (∀ x ∈ l, in64E x) ∧ l.length ≤ 9223372036854775807 ∧ a = encEs l) :=
  OpV.mono (opV_slice (R := fun a => ∃ xs : List Ent, (∀ x ∈ xs, in64E x) ∧ xs.length ≤ 9223372036854775807 ∧ a = .sl 5 encE e0 xs) und22' (oEnts.mono fun _ ⟨xs, h1, h2, h3⟩ => ⟨_, ⟨xs, h1, h2, rfl⟩, h3⟩)) fun _ ⟨xs, h1, h2, h3⟩ => ⟨xs, h1, h2, h3⟩
theorem vEnt : OpV Tryd.prog 28 (fun a => ∃ d : Ent, in64E d ∧ a = encE d) :=
  OpV.mono (opV_struct und28' oEnt) fun a ⟨l, hl, h⟩ => by
    obtain ⟨_, _, ⟨n0, h0, rfl⟩, ⟨_, _, ⟨n1, h1, rfl⟩, ⟨_, _, ⟨n2, h2, rfl⟩, ⟨_, _, ⟨n3, h3, rfl⟩, ⟨_, _, ⟨n4, h4, rfl⟩, rfl, rfl⟩, rfl⟩, rfl⟩, rfl⟩, rfl⟩ := hl
    exact ⟨⟨n0, n1, n2, n3, n4⟩, ⟨⟨⟨in64_of h0, in64_of h1⟩, in64_of h2, in64_of h3⟩, in64_of h4⟩, h⟩

def cellsPow : Array Value := ([1, 10, 100, 1000, 10000, 100000, 1000000, 10000000, 100000000, 1000000000, 10000000000, 100000000000, 1000000000000, 10000000000000, 100000000000000, 1000000000000000, 10000000000000000, 100000000000000000, 1000000000000000000, 10000000000000000000].map fun n : Int => Value.int .u64 n).toArray
def cells32 : Array Value := ([0, 1, 28, 2, 29, 14, 24, 3, 30, 22, 20, 15, 25, 17, 4, 8, 31, 27, 13, 23, 21, 19, 16, 7, 26, 12, 18, 6, 11, 5, 10, 9].map fun n : Int => Value.int .u8 n).toArray
def cells64 : Array Value := ([0, 1, 56, 2, 57, 49, 28, 3, 61, 58, 42, 50, 38, 29, 17, 4, 62, 47, 59, 36, 45, 43, 51, 22, 53, 39, 33, 30, 24, 18, 12, 5, 63, 55, 48, 27, 60, 41, 37, 16, 46, 35, 44, 21, 52, 32, 23, 11, 54, 26, 40, 15, 34, 20, 31, 10, 25, 14, 19, 9, 13, 8, 7, 6].map fun n : Int => Value.int .u8 n).toArray
def putC (cs : Array Value) : Obj → Obj
  | .cells _ t frozen => .cells cs t frozen
  | o => o
noncomputable def laidWorld (os : Os) : World :=
  { World.holding Tryd.prog os ⟨#[], #[], []⟩ with heap := ((((World.holding Tryd.prog os ⟨#[], #[], []⟩).heap.modify 3 (putC cellsPow)).modify 4 (putC cells32)).modify 5 (putC cells64)) }
theorem laid_met (os : Os) (args : Array Value) : laidMet Tryd.prog Rows.ledgerSumsRow.laid ((laidWorld os).forCall (fun _ _ => 0) ⟨#[], args, []⟩).memory :=
  laidMet_of_run' 8 (by kernel_rfl) (by kernel_rfl)

end Go.Proofs.YtglalejjcfcfkaaDoor
