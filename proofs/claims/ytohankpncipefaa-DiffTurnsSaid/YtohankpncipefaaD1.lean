import Derived.Test.YtohankpncipefaaProg
import Derived.Test.YtohankpncipefaaOwnZ2
import Derived.KernelRfl
namespace Go.Proofs.Ytohankpncipefaa
open Go.Own
/-- What is told of the types. -/
def tab : Tab := [
  (3, { desc := .int .i64, size := 1, bytes := 8, zero := .int .i64 0 }),
  (4, { desc := .bool, size := 1, bytes := 1, zero := .bool false }),
  (9, { desc := .string, size := 1, bytes := 16, zero := .string ⟨#[]⟩ }),
  (22, { desc := .slice 9, size := 1, bytes := 24, zero := .slice none 0 0 }),
  (23, { desc := .slice 35, size := 1, bytes := 24, zero := .slice none 0 0 }),
  (27, { desc := .int .i64, size := 1, bytes := 8, zero := .int .i64 0 }),
  (32, { desc := .int .u32, size := 1, bytes := 4, zero := .int .u32 0 }),
  (35, { desc := .struct #[{ name := "Old", type := 3, offset := 0, embedded := false, tag := "", pkgPath := "", byteOffset := 0 }, { name := "New", type := 3, offset := 1, embedded := false, tag := "", pkgPath := "", byteOffset := 8 }], size := 2, bytes := 16, zero := .agg #[.int .i64 0, .int .i64 0] }),
  (41, { desc := .slice 55, size := 1, bytes := 24, zero := .slice none 0 0 }),
  (42, { desc := .slice 44, size := 1, bytes := 24, zero := .slice none 0 0 }),
  (44, { desc := .struct #[{ name := "Op", type := 3, offset := 0, embedded := false, tag := "", pkgPath := "", byteOffset := 0 }, { name := "N", type := 3, offset := 1, embedded := false, tag := "", pkgPath := "", byteOffset := 8 }, { name := "Unit", type := 3, offset := 2, embedded := false, tag := "", pkgPath := "", byteOffset := 16 }, { name := "S", type := 9, offset := 3, embedded := false, tag := "", pkgPath := "", byteOffset := 24 }, { name := "Args", type := 42, offset := 4, embedded := false, tag := "", pkgPath := "", byteOffset := 40 }], size := 5, bytes := 64, zero := .agg #[.int .i64 0, .int .i64 0, .int .i64 0, .string ⟨#[]⟩, .slice none 0 0] }),
  (45, { desc := .slice 77, size := 1, bytes := 24, zero := .slice none 0 0 }),
  (46, { desc := .slice 79, size := 1, bytes := 24, zero := .slice none 0 0 }),
  (48, { desc := .struct #[{ name := "Name", type := 9, offset := 0, embedded := false, tag := "", pkgPath := "", byteOffset := 0 }, { name := "Issuer", type := 9, offset := 1, embedded := false, tag := "", pkgPath := "", byteOffset := 16 }, { name := "Face", type := 3, offset := 2, embedded := false, tag := "", pkgPath := "", byteOffset := 32 }, { name := "From", type := 3, offset := 3, embedded := false, tag := "", pkgPath := "", byteOffset := 40 }, { name := "To", type := 3, offset := 4, embedded := false, tag := "", pkgPath := "", byteOffset := 48 }, { name := "Every", type := 3, offset := 5, embedded := false, tag := "", pkgPath := "", byteOffset := 56 }, { name := "Count", type := 3, offset := 6, embedded := false, tag := "", pkgPath := "", byteOffset := 64 }, { name := "Adjust", type := 3, offset := 7, embedded := false, tag := "", pkgPath := "", byteOffset := 72 }, { name := "Record", type := 3, offset := 8, embedded := false, tag := "", pkgPath := "", byteOffset := 80 }, { name := "Rank", type := 3, offset := 9, embedded := false, tag := "", pkgPath := "", byteOffset := 88 }, { name := "Lets", type := 41, offset := 10, embedded := false, tag := "", pkgPath := "", byteOffset := 96 }, { name := "Coupon", type := 44, offset := 11, embedded := false, tag := "", pkgPath := "", byteOffset := 120 }, { name := "Cap", type := 3, offset := 16, embedded := false, tag := "", pkgPath := "", byteOffset := 184 }, { name := "Covenants", type := 45, offset := 17, embedded := false, tag := "", pkgPath := "", byteOffset := 192 }, { name := "Favour", type := 22, offset := 18, embedded := false, tag := "", pkgPath := "", byteOffset := 216 }, { name := "Cross", type := 3, offset := 19, embedded := false, tag := "", pkgPath := "", byteOffset := 240 }, { name := "Calls", type := 46, offset := 20, embedded := false, tag := "", pkgPath := "", byteOffset := 248 }, { name := "Notice", type := 3, offset := 21, embedded := false, tag := "", pkgPath := "", byteOffset := 272 }, { name := "Sink", type := 3, offset := 22, embedded := false, tag := "", pkgPath := "", byteOffset := 280 }, { name := "Majority", type := 3, offset := 23, embedded := false, tag := "", pkgPath := "", byteOffset := 288 }, { name := "Fast", type := 3, offset := 24, embedded := false, tag := "", pkgPath := "", byteOffset := 296 }], size := 25, bytes := 304, zero := .agg #[.string ⟨#[]⟩, .string ⟨#[]⟩, .int .i64 0, .int .i64 0, .int .i64 0, .int .i64 0, .int .i64 0, .int .i64 0, .int .i64 0, .int .i64 0, .slice none 0 0, .int .i64 0, .int .i64 0, .int .i64 0, .string ⟨#[]⟩, .slice none 0 0, .int .i64 0, .slice none 0 0, .slice none 0 0, .int .i64 0, .slice none 0 0, .int .i64 0, .int .i64 0, .int .i64 0, .int .i64 0] }),
  (49, { desc := .array 201 3, size := 201, bytes := 1608, zero := .agg (Array.replicate 201 (.int .i64 0)) }),
  (50, { desc := .array 201 49, size := 40401, bytes := 323208, zero := .agg (Array.replicate 40401 (.int .i64 0)) }),
  (55, { desc := .struct #[{ name := "Name", type := 9, offset := 0, embedded := false, tag := "", pkgPath := "", byteOffset := 0 }, { name := "Body", type := 44, offset := 1, embedded := false, tag := "", pkgPath := "", byteOffset := 16 }], size := 6, bytes := 80, zero := .agg #[.string ⟨#[]⟩, .int .i64 0, .int .i64 0, .int .i64 0, .string ⟨#[]⟩, .slice none 0 0] }),
  (58, { desc := .struct #[{ name := "name", type := 9, offset := 0, embedded := false, tag := "", pkgPath := "consol/diff", byteOffset := 0 }, { name := "same", type := 4, offset := 1, embedded := false, tag := "", pkgPath := "consol/diff", byteOffset := 16 }], size := 2, bytes := 24, zero := .agg #[.string ⟨#[]⟩, .bool false] }),
  (59, { desc := .slice 58, size := 1, bytes := 24, zero := .slice none 0 0 })]

theorem tabOk : TabOk Try.prog tab := tabOk_of ⟨by kernel_rfl, by kernel_rfl, by kernel_rfl, by kernel_rfl, by kernel_rfl, by kernel_rfl, by kernel_rfl, by kernel_rfl, by kernel_rfl, by kernel_rfl, by kernel_rfl, by kernel_rfl, by kernel_rfl, by kernel_rfl, big_entry (by kernel_rfl) (by kernel_rfl) (by kernel_rfl), big_entry (by kernel_rfl) (by kernel_rfl) (by kernel_rfl), by kernel_rfl, by kernel_rfl, by kernel_rfl, trivial⟩

theorem mixed : Try.prog.follows .mixedOrders = true := by kernel_rfl
noncomputable abbrev cx (N : Nat) (keep : List Nat) : Cx := ⟨Try.prog, tab, N, keep⟩
theorem cxOk (N : Nat) (keep : List Nat) : CxOk (cx N keep) := ⟨tabOk, mixed⟩

/-- A slice of strings. -/
def encS (s : List UInt8) : AV := .str s
def encSs (l : List (List UInt8)) : AV := .sl 1 encS [] l
/-- A line of a comparison. -/
structure Chg where
  o : Int
  n : Int
instance : Inhabited Chg := ⟨⟨0, 0⟩⟩
abbrev c0 : Chg := ⟨0, 0⟩
def encC (c : Chg) : AV := .agg [.int .i64 c.o, .int .i64 c.n]
def encCs (l : List Chg) : AV := .sl 2 encC c0 l
end Go.Proofs.Ytohankpncipefaa
