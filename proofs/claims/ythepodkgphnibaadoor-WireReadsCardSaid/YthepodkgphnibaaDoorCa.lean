import Derived.Shelf.Strconv.Itoa3
import Derived.Shelf.Strconv.AtoiAll
import Derived.Shelf.Small.Wraps
import Derived.Shelf.Small.Strs
import Derived.Shelf.Strings.Builder1
import Derived.Ground.NamesProg
import Derived.KernelRfl
import Derived.Test.YthepodkgphnibaaDoorProg
import Derived.Test.YthepodkgphnibaaDoorLc
import Derived.Lib.ItoaLen
import Derived.Lib.IndexLaws
import Derived.Lib.AtoiAllCases
/-
  DERIVED: THE SHELF's CONTRACTS AT THIS DUMP, IN PLAIN WORDS (tools/lay-plain.mjs out of 'WyShelf0.lean', which tools/lay-shelf.mjs wrote): THE SAME DECLARATIONS UNDER THE SAME NAMES: 'import', 'namespace', 'open', 'def', 'theorem' AND NOTHING ELSE: no command of the shelf's: FOR A HAND-IN. Each laying: the table of numbers ('.._ren') and one theorem, a field a fact of the dump's own or the kernel's comparison; each contract: ONE APPLICATION.
-/
namespace Go.Proofs.YthepodkgphnibaaDoor
open Go.Proofs Go.Shelf
def Tryd.itoaA_ren : Go.Shelf.Ren := ⟨fun | 171 => 44 | 243 => 58 | 246 => 65 | 283 => 71 | 284 => 72 | 285 => 73 | 286 => 74 | 129 => 84 | 317 => 83 | 318 => 85 | 319 => 86 | 320 => 87 | 337 => 91 | 338 => 92 | n => n, fun | 3 => 3 | 9 => 9 | 2 => 2 | 4 => 4 | 171 => 80 | 0 => 0 | 53 => 81 | 37 => 64 | 5 => 5 | 173 => 84 | 212 => 96 | 51 => 97 | 20 => 20 | 213 => 98 | 46 => 100 | 232 => 113 | 233 => 114 | n => n, fun | 17 => 0 | 18 => 4 | 19 => 5 | n => n⟩
theorem Tryd.itoaA : Go.Proofs.LaysM.n171 Tryd.prog Tryd.itoaA_ren := {
  mixed := by kernel_rfl
  f129 := Tryd.func84.trans (congrArg some (by kernel_rfl))
  f171 := Tryd.func44.trans (congrArg some (by kernel_rfl))
  f243 := Tryd.func58.trans (congrArg some (by kernel_rfl))
  f246 := Tryd.func65.trans (congrArg some (by kernel_rfl))
  f283 := Tryd.func71.trans (congrArg some (by kernel_rfl))
  f284 := Tryd.func72.trans (congrArg some (by kernel_rfl))
  f285 := Tryd.func73.trans (congrArg some (by kernel_rfl))
  f286 := Tryd.func74.trans (congrArg some (by kernel_rfl))
  f317 := Tryd.func83.trans (congrArg some (by kernel_rfl))
  f318 := Tryd.func85.trans (congrArg some (by kernel_rfl))
  f319 := Tryd.func86.trans (congrArg some (by kernel_rfl))
  f320 := Tryd.func87.trans (congrArg some (by kernel_rfl))
  f337 := Tryd.func91.trans (congrArg some (by kernel_rfl))
  f338 := Tryd.func92.trans (congrArg some (by kernel_rfl))
  t0 := Tryd.underlying0
  a0 := Tryd.isAgg0
  z0 := Tryd.sizeOf0
  v0 := Tryd.zeroValue0
  t2 := Tryd.underlying2
  a2 := Tryd.isAgg2
  z2 := Tryd.sizeOf2
  v2 := Tryd.zeroValue2
  t3 := Tryd.underlying3
  a3 := Tryd.isAgg3
  z3 := Tryd.sizeOf3
  v3 := Tryd.zeroValue3
  t4 := Tryd.underlying4
  a4 := Tryd.isAgg4
  z4 := Tryd.sizeOf4
  v4 := Tryd.zeroValue4
  t5 := Tryd.underlying5
  a5 := Tryd.isAgg5
  z5 := Tryd.sizeOf5
  v5 := Tryd.zeroValue5
  t9 := Tryd.underlying9
  a9 := Tryd.isAgg9
  z9 := Tryd.sizeOf9
  v9 := Tryd.zeroValue9
  t20 := Tryd.underlying20
  a20 := Tryd.isAgg20
  z20 := Tryd.sizeOf20
  v20 := Tryd.zeroValue20
  t37 := Tryd.underlying64
  a37 := Tryd.isAgg64
  z37 := Tryd.sizeOf64
  v37 := Tryd.zeroValue64
  t46 := Tryd.underlying100
  a46 := Tryd.isAgg100
  z46 := Tryd.sizeOf100
  v46 := Tryd.zeroValue100
  t51 := Tryd.underlying97
  a51 := Tryd.isAgg97
  z51 := Tryd.sizeOf97
  v51 := Tryd.zeroValue97
  t53 := Tryd.underlying81
  a53 := Tryd.isAgg81
  z53 := Tryd.sizeOf81
  v53 := Tryd.zeroValue81
  t171 := Tryd.underlying80
  a171 := Tryd.isAgg80
  z171 := Tryd.sizeOf80
  v171 := Tryd.zeroValue80
  t173 := Tryd.underlying84
  a173 := Tryd.isAgg84
  z173 := Tryd.sizeOf84
  v173 := Tryd.zeroValue84
  t212 := Tryd.underlying96
  a212 := Tryd.isAgg96
  z212 := Tryd.sizeOf96
  v212 := Tryd.zeroValue96
  t213 := Tryd.underlying98
  a213 := Tryd.isAgg98
  z213 := Tryd.sizeOf98
  t232 := Tryd.underlying113
  a232 := Tryd.isAgg113
  z232 := Tryd.sizeOf113
  v232 := Tryd.zeroValue113
  t233 := Tryd.underlying114
  a233 := Tryd.isAgg114
  z233 := Tryd.sizeOf114
  v233 := Tryd.zeroValue114
  g17 := by kernel_rfl
  g18 := by kernel_rfl
  g19 := by kernel_rfl
  i0 := by kernel_rfl
  i2 := by kernel_rfl
  i3 := by kernel_rfl
  i4 := by kernel_rfl
  i5 := by kernel_rfl
  i9 := by kernel_rfl
  i20 := by kernel_rfl
  i37 := by kernel_rfl
  i46 := by kernel_rfl
  i51 := by kernel_rfl
  i53 := by kernel_rfl
  i171 := by kernel_rfl
  i173 := by kernel_rfl
  i212 := by kernel_rfl
  i232 := by kernel_rfl
  i233 := by kernel_rfl
  m17 := by kernel_rfl
  m18 := by kernel_rfl
  m19 := by kernel_rfl }
def Tryd.atoiA_ren : Go.Shelf.Ren := ⟨fun | 172 => 62 | 244 => 68 | 245 => 69 | 247 => 77 | 279 => 78 | 280 => 79 | 281 => 80 | 282 => 81 | 287 => 88 | 316 => 89 | 171 => 44 | 205 => 90 | 321 => 93 | 322 => 94 | 243 => 58 | 246 => 65 | 283 => 71 | 284 => 72 | 285 => 73 | 286 => 74 | 129 => 84 | 317 => 83 | 318 => 85 | 319 => 86 | 320 => 87 | 337 => 91 | 338 => 92 | n => n, fun | 9 => 9 | 3 => 3 | 75 => 69 | 76 => 70 | 4 => 4 | 5 => 5 | 167 => 88 | 37 => 64 | 0 => 0 | 85 => 89 | 2 => 2 | 168 => 91 | 53 => 81 | 175 => 102 | 46 => 100 | 210 => 105 | 127 => 78 | 145 => 112 | 143 => 110 | 21 => 21 | 171 => 80 | 173 => 84 | 212 => 96 | 51 => 97 | 20 => 20 | 213 => 98 | 232 => 113 | 233 => 114 | 80 => 38 | n => n, fun | 15 => 2 | 16 => 3 | 17 => 0 | 18 => 4 | 19 => 5 | n => n⟩
theorem Tryd.atoiA : Go.Proofs.LaysC.n172 Tryd.prog Tryd.atoiA_ren := {
  mixed := by kernel_rfl
  f129 := Tryd.func84.trans (congrArg some (by kernel_rfl))
  f171 := Tryd.func44.trans (congrArg some (by kernel_rfl))
  f172 := Tryd.func62.trans (congrArg some (by kernel_rfl))
  f205 := Tryd.func90.trans (congrArg some (by kernel_rfl))
  f243 := Tryd.func58.trans (congrArg some (by kernel_rfl))
  f244 := Tryd.func68.trans (congrArg some (by kernel_rfl))
  f245 := Tryd.func69.trans (congrArg some (by kernel_rfl))
  f246 := Tryd.func65.trans (congrArg some (by kernel_rfl))
  f247 := Tryd.func77.trans (congrArg some (by kernel_rfl))
  f279 := Tryd.func78.trans (congrArg some (by kernel_rfl))
  f280 := Tryd.func79.trans (congrArg some (by kernel_rfl))
  f281 := Tryd.func80.trans (congrArg some (by kernel_rfl))
  f282 := Tryd.func81.trans (congrArg some (by kernel_rfl))
  f283 := Tryd.func71.trans (congrArg some (by kernel_rfl))
  f284 := Tryd.func72.trans (congrArg some (by kernel_rfl))
  f285 := Tryd.func73.trans (congrArg some (by kernel_rfl))
  f286 := Tryd.func74.trans (congrArg some (by kernel_rfl))
  f287 := Tryd.func88.trans (congrArg some (by kernel_rfl))
  f316 := Tryd.func89.trans (congrArg some (by kernel_rfl))
  f317 := Tryd.func83.trans (congrArg some (by kernel_rfl))
  f318 := Tryd.func85.trans (congrArg some (by kernel_rfl))
  f319 := Tryd.func86.trans (congrArg some (by kernel_rfl))
  f320 := Tryd.func87.trans (congrArg some (by kernel_rfl))
  f321 := Tryd.func93.trans (congrArg some (by kernel_rfl))
  f322 := Tryd.func94.trans (congrArg some (by kernel_rfl))
  f337 := Tryd.func91.trans (congrArg some (by kernel_rfl))
  f338 := Tryd.func92.trans (congrArg some (by kernel_rfl))
  t0 := Tryd.underlying0
  a0 := Tryd.isAgg0
  z0 := Tryd.sizeOf0
  v0 := Tryd.zeroValue0
  t2 := Tryd.underlying2
  a2 := Tryd.isAgg2
  z2 := Tryd.sizeOf2
  v2 := Tryd.zeroValue2
  t3 := Tryd.underlying3
  a3 := Tryd.isAgg3
  z3 := Tryd.sizeOf3
  v3 := Tryd.zeroValue3
  t4 := Tryd.underlying4
  a4 := Tryd.isAgg4
  z4 := Tryd.sizeOf4
  v4 := Tryd.zeroValue4
  t5 := Tryd.underlying5
  a5 := Tryd.isAgg5
  z5 := Tryd.sizeOf5
  v5 := Tryd.zeroValue5
  t9 := Tryd.underlying9
  a9 := Tryd.isAgg9
  z9 := Tryd.sizeOf9
  v9 := Tryd.zeroValue9
  t20 := Tryd.underlying20
  a20 := Tryd.isAgg20
  z20 := Tryd.sizeOf20
  v20 := Tryd.zeroValue20
  t21 := Tryd.underlying21
  a21 := Tryd.isAgg21
  z21 := Tryd.sizeOf21
  v21 := Tryd.zeroValue21
  t37 := Tryd.underlying64
  a37 := Tryd.isAgg64
  z37 := Tryd.sizeOf64
  v37 := Tryd.zeroValue64
  t46 := Tryd.underlying100
  a46 := Tryd.isAgg100
  z46 := Tryd.sizeOf100
  v46 := Tryd.zeroValue100
  t51 := Tryd.underlying97
  a51 := Tryd.isAgg97
  z51 := Tryd.sizeOf97
  v51 := Tryd.zeroValue97
  t53 := Tryd.underlying81
  a53 := Tryd.isAgg81
  z53 := Tryd.sizeOf81
  v53 := Tryd.zeroValue81
  t75 := Tryd.underlying69
  a75 := Tryd.isAgg69
  z75 := Tryd.sizeOf69
  v75 := Tryd.zeroValue69
  t76 := Tryd.underlying70
  a76 := Tryd.isAgg70
  z76 := Tryd.sizeOf70
  v76 := Tryd.zeroValue70
  t85 := Tryd.underlying89
  a85 := Tryd.isAgg89
  z85 := Tryd.sizeOf89
  v85 := Tryd.zeroValue89
  t127 := Tryd.underlying78
  a127 := Tryd.isAgg78
  z127 := Tryd.sizeOf78
  v127 := Tryd.zeroValue78
  t143 := Tryd.underlying110
  a143 := Tryd.isAgg110
  z143 := Tryd.sizeOf110
  v143 := Tryd.zeroValue110
  t145 := Tryd.underlying112
  a145 := Tryd.isAgg112
  z145 := Tryd.sizeOf112
  v145 := Tryd.zeroValue112
  t167 := Tryd.underlying88
  a167 := Tryd.isAgg88
  z167 := Tryd.sizeOf88
  v167 := Tryd.zeroValue88
  t168 := Tryd.underlying91
  a168 := Tryd.isAgg91
  z168 := Tryd.sizeOf91
  v168 := Tryd.zeroValue91
  t171 := Tryd.underlying80
  a171 := Tryd.isAgg80
  z171 := Tryd.sizeOf80
  v171 := Tryd.zeroValue80
  t173 := Tryd.underlying84
  a173 := Tryd.isAgg84
  z173 := Tryd.sizeOf84
  v173 := Tryd.zeroValue84
  t175 := Tryd.underlying102
  a175 := Tryd.isAgg102
  z175 := Tryd.sizeOf102
  v175 := Tryd.zeroValue102
  t210 := Tryd.underlying105
  a210 := Tryd.isAgg105
  z210 := Tryd.sizeOf105
  v210 := Tryd.zeroValue105
  t212 := Tryd.underlying96
  a212 := Tryd.isAgg96
  z212 := Tryd.sizeOf96
  v212 := Tryd.zeroValue96
  t213 := Tryd.underlying98
  a213 := Tryd.isAgg98
  z213 := Tryd.sizeOf98
  t232 := Tryd.underlying113
  a232 := Tryd.isAgg113
  z232 := Tryd.sizeOf113
  v232 := Tryd.zeroValue113
  t233 := Tryd.underlying114
  a233 := Tryd.isAgg114
  z233 := Tryd.sizeOf114
  v233 := Tryd.zeroValue114
  g15 := by kernel_rfl
  g16 := by kernel_rfl
  g17 := by kernel_rfl
  g18 := by kernel_rfl
  g19 := by kernel_rfl
  t80 := Tryd.underlying38
  a80 := Tryd.isAgg38
  z80 := Tryd.sizeOf38
  v80 := Tryd.zeroValue38
  i0 := by kernel_rfl
  i2 := by kernel_rfl
  i3 := by kernel_rfl
  i4 := by kernel_rfl
  i5 := by kernel_rfl
  i9 := by kernel_rfl
  i20 := by kernel_rfl
  i21 := by kernel_rfl
  i37 := by kernel_rfl
  i46 := by kernel_rfl
  i51 := by kernel_rfl
  i53 := by kernel_rfl
  i75 := by kernel_rfl
  i76 := by kernel_rfl
  i80 := by kernel_rfl
  i85 := by kernel_rfl
  i127 := by kernel_rfl
  i143 := by kernel_rfl
  i145 := by kernel_rfl
  i167 := by kernel_rfl
  i168 := by kernel_rfl
  i171 := by kernel_rfl
  i173 := by kernel_rfl
  i175 := by kernel_rfl
  i210 := by kernel_rfl
  i212 := by kernel_rfl
  i232 := by kernel_rfl
  i233 := by kernel_rfl
  m15 := by kernel_rfl
  m16 := by kernel_rfl
  m17 := by kernel_rfl
  m18 := by kernel_rfl
  m19 := by kernel_rfl
  c0 := by kernel_rfl
  c2 := by kernel_rfl
  c3 := by kernel_rfl
  c4 := by kernel_rfl
  c5 := by kernel_rfl
  c9 := by kernel_rfl
  c20 := by kernel_rfl
  c21 := by kernel_rfl
  c37 := by kernel_rfl
  c46 := by kernel_rfl
  c51 := by kernel_rfl
  c53 := by kernel_rfl
  c75 := by kernel_rfl
  c76 := by kernel_rfl
  c80 := by kernel_rfl
  c85 := by kernel_rfl
  c127 := by kernel_rfl
  c143 := by kernel_rfl
  c145 := by kernel_rfl
  c167 := by kernel_rfl
  c168 := by kernel_rfl
  c171 := by kernel_rfl
  c173 := by kernel_rfl
  c175 := by kernel_rfl
  c210 := by kernel_rfl
  c212 := by kernel_rfl
  c213 := by kernel_rfl
  c232 := by kernel_rfl
  c233 := by kernel_rfl }
def Tryd.indexA_ren : Go.Shelf.Ren := ⟨fun | 137 => 61 | 217 => 67 | 266 => 76 | n => n, fun | 9 => 9 | 5 => 5 | 3 => 3 | n => n, fun | n => n⟩
theorem Tryd.indexA : Go.Proofs.Lays.n137 Tryd.prog Tryd.indexA_ren := {
  mixed := by kernel_rfl
  f137 := Tryd.func61.trans (congrArg some (by kernel_rfl))
  f217 := Tryd.func67.trans (congrArg some (by kernel_rfl))
  f266 := Tryd.func76.trans (congrArg some (by kernel_rfl))
  t3 := Tryd.underlying3
  a3 := Tryd.isAgg3
  z3 := Tryd.sizeOf3
  v3 := Tryd.zeroValue3
  t5 := Tryd.underlying5
  a5 := Tryd.isAgg5
  z5 := Tryd.sizeOf5
  v5 := Tryd.zeroValue5
  t9 := Tryd.underlying9
  a9 := Tryd.isAgg9
  z9 := Tryd.sizeOf9
  v9 := Tryd.zeroValue9 }
def Tryd.cutA_ren : Go.Shelf.Ren := ⟨fun | 103 => 63 | 210 => 70 | 206 => 82 | n => n, fun | 9 => 9 | 4 => 4 | 24 => 73 | 3 => 3 | n => n, fun | n => n⟩
theorem Tryd.cutA : Go.Proofs.Lays.n103 Tryd.prog Tryd.cutA_ren := {
  mixed := by kernel_rfl
  f103 := Tryd.func63.trans (congrArg some (by kernel_rfl))
  f206 := Tryd.func82.trans (congrArg some (by kernel_rfl))
  f210 := Tryd.func70.trans (congrArg some (by kernel_rfl))
  t3 := Tryd.underlying3
  a3 := Tryd.isAgg3
  z3 := Tryd.sizeOf3
  v3 := Tryd.zeroValue3
  t4 := Tryd.underlying4
  a4 := Tryd.isAgg4
  z4 := Tryd.sizeOf4
  v4 := Tryd.zeroValue4
  t9 := Tryd.underlying9
  a9 := Tryd.isAgg9
  z9 := Tryd.sizeOf9
  v9 := Tryd.zeroValue9
  t24 := Tryd.underlying73
  a24 := Tryd.isAgg73
  z24 := Tryd.sizeOf73
  v24 := Tryd.zeroValue73 }
end Go.Proofs.YthepodkgphnibaaDoor

/-
  (*strings.Builder).copyCheck of this program, step by step.
-/
namespace Go.Proofs.YthepodkgphnibaaDoor
open Go.Proofs Go.Shelf Go.RowKit

theorem Tryd.sizeB : (Tryd.prog.info? 67).map (·.size) = some 2 := by kernel_rfl
theorem Tryd.liesB : liesAt Tryd.prog Tryd.prog.depth 67 (2 / Tryd.prog.cellsOf 67) 0 67 1 = true := by kernel_rfl
theorem Tryd.mixedO : Tryd.prog.follows .mixedOrders = true := by kernel_rfl

set_option maxHeartbeats 1000000 in
set_option maxRecDepth 100000 in
theorem Tryd.copy_used_calls (b : Nat) (w : World) (h0 : w.cell? ⟨b, 0, none⟩ = some (.pointer (some ⟨b, 0, none⟩))) :
    Calls Tryd.prog 66 #[.pointer (some ⟨b, 0, none⟩)] w fun e w' => e = .returned (.tuple #[]) ∧ w' = w := by
  obtain ⟨j, hj, _⟩ := Option.map_eq_some_iff.1 Tryd.sizeB
  have mixed := Tryd.mixedO
  go_enter Tryd.func66, Tryd.ntmps66
  go_wp2
  rw [Lib.run_neq_ptr_same w _ Tryd.underlying65 hj]
  go_wp2
  go_end0
  exact ⟨rfl, rfl⟩

set_option maxHeartbeats 1000000 in
set_option maxRecDepth 100000 in
theorem Tryd.copy_fresh_calls (b : Nat) (w : World) (h0 : w.cell? ⟨b, 0, none⟩ = some (.pointer none)) (hsh : w.shape? b = some (67, 2)) (hfz : w.frozen? ⟨b, 0, none⟩ = false) :
    Calls Tryd.prog 66 #[.pointer (some ⟨b, 0, none⟩)] w fun e w' => e = .returned (.tuple #[]) ∧ w' = w.setCell ⟨b, 0, none⟩ (.pointer (some ⟨b, 0, none⟩)) := by
  obtain ⟨j, hj, hjs⟩ := Option.map_eq_some_iff.1 Tryd.sizeB
  have mixed := Tryd.mixedO
  go_enter Tryd.func66, Tryd.ntmps66
  go_wp2
  rw [Lib.run_to_unsafe w ⟨b, 0, none⟩ Tryd.underlying65 Tryd.underlying86 hj (by rw [hjs]; decide) hsh (Nat.zero_lt_succ 1)]
  simp only [Result.andThen]
  rw [Oper.upon_value]
  go_wp2
  rw [run_callFunc_extern Tryd.func75 (by kernel_rfl) (by kernel_rfl) (by kernel_rfl) (e := Extern.AbiNoEscape.same) (by kernel_rfl)]
  rw [Lib.run_noEscape]
  simp only [Result.andThen]
  rw [Oper.upon_value]
  go_wp2
  rw [Lib.run_from_unsafe w ⟨b, 0, none⟩ Tryd.underlying86 Tryd.underlying65 hj hsh Tryd.liesB]
  simp only [Result.andThen]
  rw [Oper.upon_value]
  go_wp2
  go_end0
  exact ⟨rfl, rfl⟩

end Go.Proofs.YthepodkgphnibaaDoor

namespace Go.Proofs.YthepodkgphnibaaDoor
open Go.Own
def isErr (cs : Array Value) : Prop := ∃ te pe, cs[0]? = some (.iface te pe)
/-- The listed package-level variables that the walks look at. -/
instance : Tabs := ⟨fun g => match g with
  | 0 => some fun cs => cs = (Lib.pow10Tab.map fun z => Value.int .u64 z).toArray
  | 2 => some isErr
  | 3 => some isErr
  | _ => none⟩
/-- What is told of the types. -/
def tab : Tab := [
  (3, { desc := .int .i64, size := 1, bytes := 8, zero := .int .i64 0 }),
  (4, { desc := .bool, size := 1, bytes := 1, zero := .bool false }),
  (5, { desc := .int .u8, size := 1, bytes := 1, zero := .int .u8 0 }),
  (9, { desc := .string, size := 1, bytes := 16, zero := .string ⟨#[]⟩ }),
  (22, { desc := .slice 3, size := 1, bytes := 24, zero := .slice none 0 0 }),
  (23, { desc := .slice 9, size := 1, bytes := 24, zero := .slice none 0 0 }),
  (25, { desc := .struct #[{ name := "Kind", type := 3, offset := 0, embedded := false, tag := "", pkgPath := "", byteOffset := 0 }, { name := "N", type := 3, offset := 1, embedded := false, tag := "", pkgPath := "", byteOffset := 8 }, { name := "S", type := 9, offset := 2, embedded := false, tag := "", pkgPath := "", byteOffset := 16 }, { name := "L", type := 22, offset := 3, embedded := false, tag := "", pkgPath := "", byteOffset := 32 }, { name := "T", type := 23, offset := 4, embedded := false, tag := "", pkgPath := "", byteOffset := 56 }], size := 5, bytes := 80, zero := .agg #[.int .i64 0, .int .i64 0, .string ⟨#[]⟩, .slice none 0 0, .slice none 0 0] }),
  (28, { desc := .slice 25, size := 1, bytes := 24, zero := .slice none 0 0 }),
  (29, { desc := .func #[3] #[9] false, size := 1, bytes := 8, zero := .nilFunc }),
  (30, { desc := .func #[9] #[9] false, size := 1, bytes := 8, zero := .nilFunc }),
  (34, { desc := .pointer 54, size := 1, bytes := 8, zero := .pointer none }),
  (37, { desc := .func #[] #[3] false, size := 1, bytes := 8, zero := .nilFunc }),
  (38, { desc := .func #[] #[9] false, size := 1, bytes := 8, zero := .nilFunc }),
  (45, { desc := .pointer 61, size := 1, bytes := 8, zero := .pointer none }),
  (54, { desc := .struct #[{ name := "rest", type := 9, offset := 0, embedded := false, tag := "", pkgPath := "consol/wire", byteOffset := 0 }, { name := "bad", type := 4, offset := 1, embedded := false, tag := "", pkgPath := "consol/wire", byteOffset := 16 }], size := 2, bytes := 24, zero := .agg #[.string ⟨#[]⟩, .bool false] }),
  (61, { desc := .struct #[{ name := "Rest", type := 9, offset := 0, embedded := false, tag := "", pkgPath := "", byteOffset := 0 }, { name := "Bad", type := 4, offset := 1, embedded := false, tag := "", pkgPath := "", byteOffset := 16 }], size := 2, bytes := 24, zero := .agg #[.string ⟨#[]⟩, .bool false] }),
  (64, { desc := .slice 5, size := 1, bytes := 24, zero := .slice none 0 0 }),
  (65, { desc := .pointer 67, size := 1, bytes := 8, zero := .pointer none }),
  (67, { desc := .struct #[{ name := "addr", type := 65, offset := 0, embedded := false, tag := "", pkgPath := "strings", byteOffset := 0 }, { name := "buf", type := 64, offset := 1, embedded := false, tag := "", pkgPath := "strings", byteOffset := 8 }], size := 2, bytes := 32, zero := .agg #[.pointer none, .slice none 0 0] }),
  (78, { desc := .pointer 5, size := 1, bytes := 8, zero := .pointer none }),
  (69, { desc := .interface #[("Error", 38)], size := 1, bytes := 16, zero := .nilIface })]

theorem tabOk : TabOk Tryd.prog tab := tabOk_of ⟨by kernel_rfl, by kernel_rfl, by kernel_rfl, by kernel_rfl, by kernel_rfl, by kernel_rfl, by kernel_rfl, by kernel_rfl, by kernel_rfl, by kernel_rfl, by kernel_rfl, by kernel_rfl, by kernel_rfl, by kernel_rfl, by kernel_rfl, by kernel_rfl, by kernel_rfl, by kernel_rfl, by kernel_rfl, by kernel_rfl, by kernel_rfl, trivial⟩

theorem mixed : Tryd.prog.follows .mixedOrders = true := by kernel_rfl
noncomputable abbrev cx (N : Nat) (keep : List Nat) : Cx := ⟨Tryd.prog, tab, N, keep, 0, false⟩
theorem cxOk (N : Nat) (keep : List Nat) : CxOk (cx N keep) := ⟨tabOk, mixed⟩
noncomputable abbrev cxP (pn N : Nat) (keep : List Nat) : Cx := ⟨Tryd.prog, tab, N, keep, pn, false⟩
theorem cxPOk (pn N : Nat) (keep : List Nat) : CxOk (cxP pn N keep) := ⟨tabOk, mixed⟩

/-! ### Functions of Go's library -/
theorem tab_pow (S : Blocks) (w : World) (h : TabAt S w) : Lib.TabIs Tryd.prog w "internal/strconv.uint64pow10" .u64 Lib.pow10Tab := by
  obtain ⟨_, cs, e, fz, h1, h2⟩ := h 0 _ rfl
  have hg : Tryd.prog.globalNamed "internal/strconv.uint64pow10" = some 0 := by kernel_rfl
  have h2' : cs = (Lib.pow10Tab.map fun z => Value.int .u64 z).toArray := h2
  unfold Lib.TabIs World.var?
  rw [hg]
  show (match w.heap[0]? with | some (.cells cs _ _) => some cs | _ => none) = _
  rw [h1, h2']
theorem tab_err (S : Blocks) (w : World) (h : TabAt S w) (g : Nat) (hg : Tabs.held g = some isErr) : ∃ ev, w.cell? ⟨g, 0, none⟩ = some ev ∧ (ev = .nilIface ∨ ∃ te pe, ev = .iface te pe) := by
  obtain ⟨_, cs, e, fz, h1, te, pe, h2⟩ := h g _ hg
  refine ⟨.iface te pe, ?_, .inr ⟨te, pe, rfl⟩⟩
  rw [Lib.cell_of_heap h1]
  exact h2

theorem itoa_c (n : Int) (h0 : -9223372036854775808 ≤ n) (h1 : n ≤ 9223372036854775807) : APureV Tryd.prog 44 [.int .i64 n] (.str (Lib.itoa n)) :=
  itoa_ok Tryd.itoaA ⟨_, Tryd.func44, rfl, by decide⟩ tab_pow n h0 h1
theorem atoi_c (s : List UInt8) (hs : s.length ≤ 281474976710656) : APure Tryd.prog 62 [.str s] (fun rs => rs = (atoiR s).map .val) :=
  atoi_ok Tryd.atoiA ⟨_, Tryd.func62, rfl, by decide⟩ (fun S w h => ⟨tab_err S w h 2 rfl, tab_err S w h 3 rfl⟩) s hs
theorem index_c (s : List UInt8) (c : Int) : APureV Tryd.prog 61 [.str s, .int .u8 c] (.int .i64 (Lib.indexByte s c.toNat.toUInt8)) :=
  index_ok Tryd.indexA ⟨_, Tryd.func61, rfl, by decide⟩ s c
theorem cut_c (s p : List UInt8) : APure Tryd.prog 63 [.str s, .str p] (fun rs => rs = [.val (.str (Lib.trimPrefix s p)), .val (.bool (Lib.hasPrefix s p))]) :=
  cut_ok Tryd.cutA ⟨_, Tryd.func63, rfl, by decide⟩ s p

/-! ### strings.Builder -/
theorem fnOk66 : FnOk Tryd.prog 66 := ⟨_, Tryd.func66, rfl, by decide⟩
theorem write_first (s : List UInt8) (hs : s.length ≤ 140737488355328) : CallSem Tryd.prog 59 [.ptr 0 0, .str s] [(0, .cells 67 [.nilp, .nils])] 1 [0]
    (fun r => r = ⟨.tup [.int .i64 s.length, .ifc true], [0], [(0, .cells 67 [.ptr 0 0, .own 1]), (1, .lst 5 1 (strAVs s))], 2⟩) := by
  refine inl_sem (C := cxP 1 19 [0, 1, 4, 5]) (cxPOk _ _ _) [0] [1] Tryd.func59 rfl (by decide) rfl (by exact Nat.le_of_ble_eq_true rfl) (by decide) rfl rfl ?_
  conv => whnf
  refine .raw _ _ rfl (fun h => by cases h) (copy_fresh (e := 67) (x := .nils) Tryd.copy_fresh_calls fnOk66 rfl) ?_
  rintro r rfl
  refine ⟨Nat.le_refl _, ?_⟩
  conv => whnf
  refine ⟨hs, ?_⟩
  conv => whnf
  refine ⟨rfl, rfl, rfl, ?_⟩
  conv => whnf
  exact ⟨rfl, rfl⟩
theorem write_more (b s : List UInt8) (hs : b.length + s.length ≤ 140737488355328) : CallSem Tryd.prog 59 [.ptr 0 0, .str s] [(0, .cells 67 [.ptr 0 0, .own 1]), (1, .lst 5 1 (strAVs b))] 2 [0, 1]
    (fun r => r = ⟨.tup [.int .i64 s.length, .ifc true], [0, 1], [(0, .cells 67 [.ptr 0 0, .own 2]), (1, .dead), (2, .lst 5 1 (strAVs b ++ strAVs s))], 3⟩) := by
  refine inl_sem (C := cxP 2 19 [0, 1, 4, 5]) (cxPOk _ _ _) [0, 1] [2] Tryd.func59 rfl (by decide) rfl (by exact Nat.le_of_ble_eq_true rfl) (by decide) rfl rfl ?_
  conv => whnf
  refine .raw _ _ rfl (fun h => by cases h) (copy_used (e := 67) (x := .own 1) Tryd.copy_used_calls fnOk66 rfl) ?_
  rintro r rfl
  refine ⟨Nat.le_refl _, ?_⟩
  conv => whnf
  refine ⟨⟨rfl, rfl⟩, by rw [strAVs_len]; exact hs, ?_⟩
  conv => whnf
  refine ⟨rfl, rfl, rfl, ?_⟩
  conv => whnf
  exact ⟨rfl, rfl⟩

theorem string_of (b : List UInt8) (hb : b ≠ []) : CallSem Tryd.prog 60 [.ptr 0 0] [(0, .cells 67 [.ptr 0 0, .own 1]), (1, .lst 5 1 (strAVs b))] 2 [0, 1]
    (fun r => r = ⟨.str b, [0, 1], [(0, .cells 67 [.ptr 0 0, .own 1]), (1, .dead)], 2⟩) := by
  have hb1 : 0 < (strAVs b).length := by rw [strAVs_len]; exact List.length_pos_iff.2 hb
  refine inl_sem (C := cxP 2 14 [0, 2]) (cxPOk _ _ _) [0, 1] [] Tryd.func60 rfl (by decide) rfl (by exact Nat.le_of_ble_eq_true rfl) (by decide) rfl rfl ?_
  conv => whnf
  refine .eff (by first | exact cxOk _ _ | exact cxPOk _ _ _) ?_
  conv => whnf
  refine ⟨hb1, ?_⟩
  conv => whnf
  refine ⟨⟨rfl, rfl⟩, hb1, rfl, b, rfl, ?_⟩
  conv => whnf
  refine ⟨by kernel_rfl, ?_⟩
  conv => whnf
  refine ⟨rfl, rfl, rfl, ?_⟩
  conv => whnf
  exact ⟨rfl, rfl⟩

end Go.Proofs.YthepodkgphnibaaDoor

namespace Go.Proofs.YthepodkgphnibaaDoor
open Go.Own
set_option maxHeartbeats 1000000
set_option maxRecDepth 100000

theorem callSem_congr [Tabs] {P : Program} {f : FuncId} {avs : List AV} {H H' : Heap} {nx : Nat} {t : List Nat} {Rr : Res → Prop} (h : CallSem P f avs H nx t Rr) (he : ∀ id ∈ t, lkH H id = lkH H' id) : CallSem P f avs H' nx t Rr :=
  ⟨h.1, fun m S w H₂ vs hG ht => h.2 m S w H₂ vs hG fun id hid => by rw [ht id hid, he id hid]⟩

def encI (n : Int) : AV := .int .i64 n
def encS (s : List UInt8) : AV := .str s
def in64 (n : Int) : Prop := -9223372036854775808 ≤ n ∧ n ≤ 9223372036854775807
/-! ### What is written -/
def intS (n : Int) : List UInt8 := Lib.itoa n ++ [59]
def numS (n : Int) : List UInt8 := if n < 0 then [] else intS n
def textS (s : List UInt8) : List UInt8 := Lib.itoa s.length ++ [58] ++ s ++ [44]
def headS (n : Nat) : List UInt8 := Lib.itoa n ++ [91]
def listS {T : Type} (f : T → List UInt8) (l : List T) : List UInt8 := headS l.length ++ l.flatMap f ++ [93]
def partS {T : Type} (f : T → List UInt8) (l : List T) (k : Nat) : List UInt8 := headS l.length ++ (l.take k).flatMap f
theorem partS_succ {T : Type} {f : T → List UInt8} {l : List T} {k : Nat} {d : T} (h : k < l.length) : partS f l (k + 1) = partS f l k ++ f (l.getD k d) := by
  unfold partS
  have : l.take (k + 1) = l.take k ++ [l.getD k d] := by
    rw [List.take_add_one, List.getElem?_eq_getElem h, List.getD_eq_getElem?_getD, List.getElem?_eq_getElem h]
    rfl
  rw [this, List.flatMap_append, List.append_assoc]
  simp
theorem partS_len {T : Type} {f : T → List UInt8} {l : List T} (k : Nat) : (partS f l k).length ≤ (listS f l).length := by
  have h : l.flatMap f = (l.take k).flatMap f ++ (l.drop k).flatMap f := by rw [← List.flatMap_append, List.take_append_drop]
  unfold partS listS
  rw [h]
  simp only [List.length_append]
  omega
theorem partS_ne {T : Type} (f : T → List UInt8) (l : List T) (k : Nat) : partS f l k ≠ [] := by
  unfold partS headS
  simp

theorem int_ok (n : Int) (hn : in64 n) : APureV Tryd.prog 13 [.int .i64 n] (.str (intS n)) := by
  have hi := itoa_c n hn.1 hn.2
  have hl := Lib.itoa_length_le n hn.1 hn.2
  refine apure_of (C := cx 6 [0, 2]) (cxOk _ _) Tryd.func13 rfl (by decide) rfl (by exact Nat.le_of_ble_eq_true rfl) (by decide) ?_
  conv => whnf
  refine .one _ _ _ (fun _ => hi) (by repeat (first | exact .nil | (apply BorL.cons; first | exact lS rfl | exact lR rfl | exact lM rfl rfl | exact lL rfl | exact lX rfl | exact lN | exact lNl | exact lSm rfl | exact lIm rfl | exact lP rfl | exact lQ rfl | exact lB rfl rfl rfl))) (by first | exact .inl rfl | exact .inr (by repeat (first | exact flats_nil | refine flats_cons (by first | exact flat_val _ rfl | exact flat_row (fun _ => rfl) | exact flat_lst (fun _ => rfl)) ?_))) (by first | exact .inl rfl | exact .inr rfl) ?_
  conv => whnf
  repeat (first | (refine And.intro ⟨by omega, by omega⟩ ?_; conv => whnf) | (refine And.intro (by omega) (And.intro rfl ?_); conv => whnf) | (refine And.intro rfl ?_; conv => whnf) | (refine And.intro (fun _ => ⟨by omega, by omega⟩) ?_; conv => whnf) | (refine And.intro (fun _ => by omega) (And.intro rfl ?_); conv => whnf) | (refine And.intro ⟨(by first | omega | (simp; omega)), (by first | omega | (simp; omega))⟩ ?_; conv => whnf) | (refine Exists.intro _ (And.intro rfl (And.intro (by first | omega | (simp; omega)) (And.intro ⟨rfl, rfl, rfl, rfl, rfl⟩ ?_))); conv => whnf) | (refine And.intro ⟨rfl, rfl⟩ (And.intro (by first | omega | (simp; omega)) ?_); conv => whnf) | (refine Exists.intro _ (And.intro rfl ?_); conv => whnf) | (refine And.intro (fun _ => ?_) (fun h => absurd h (by decide)); conv => whnf) | (refine And.intro (fun h => absurd h (by decide)) (fun _ => ?_); conv => whnf) | (refine .quiet (by kernel_rfl) ?_; conv => whnf))
  refine And.intro (show (((Lib.itoa n).length + 1 : Nat) : Int) ≤ 9223372036854775807 by omega) ?_
  conv => whnf
  rfl
theorem num_ok (n : Int) (hn : in64 n) : APureV Tryd.prog 11 [.int .i64 n] (.str (numS n)) := by
  have hi := int_ok n hn
  refine apure_of (C := cx 7 [0, 2, 4]) (cxOk _ _) Tryd.func11 rfl (by decide) rfl (by exact Nat.le_of_ble_eq_true rfl) (by decide) ?_
  conv => whnf
  refine ⟨fun hc => ?_, fun hc => ?_⟩
  · conv => whnf
    unfold numS
    rw [if_pos (of_decide_eq_true hc)]
    rfl
  · conv => whnf
    refine .one _ _ _ (fun _ => hi) (by repeat (first | exact .nil | (apply BorL.cons; first | exact lS rfl | exact lR rfl | exact lM rfl rfl | exact lL rfl | exact lX rfl | exact lN | exact lNl | exact lSm rfl | exact lIm rfl | exact lP rfl | exact lQ rfl | exact lB rfl rfl rfl))) (by first | exact .inl rfl | exact .inr (by repeat (first | exact flats_nil | refine flats_cons (by first | exact flat_val _ rfl | exact flat_row (fun _ => rfl) | exact flat_lst (fun _ => rfl)) ?_))) (by first | exact .inl rfl | exact .inr rfl) ?_
    conv => whnf
    repeat (first | (refine And.intro ⟨by omega, by omega⟩ ?_; conv => whnf) | (refine And.intro (by omega) (And.intro rfl ?_); conv => whnf) | (refine And.intro rfl ?_; conv => whnf) | (refine And.intro (fun _ => ⟨by omega, by omega⟩) ?_; conv => whnf) | (refine And.intro (fun _ => by omega) (And.intro rfl ?_); conv => whnf) | (refine And.intro ⟨(by first | omega | (simp; omega)), (by first | omega | (simp; omega))⟩ ?_; conv => whnf) | (refine Exists.intro _ (And.intro rfl (And.intro (by first | omega | (simp; omega)) (And.intro ⟨rfl, rfl, rfl, rfl, rfl⟩ ?_))); conv => whnf) | (refine And.intro ⟨rfl, rfl⟩ (And.intro (by first | omega | (simp; omega)) ?_); conv => whnf) | (refine Exists.intro _ (And.intro rfl ?_); conv => whnf) | (refine And.intro (fun _ => ?_) (fun h => absurd h (by decide)); conv => whnf) | (refine And.intro (fun h => absurd h (by decide)) (fun _ => ?_); conv => whnf) | (refine .quiet (by kernel_rfl) ?_; conv => whnf))
    unfold numS
    rw [if_neg (of_decide_eq_false hc)]
    rfl
theorem text_ok (s : List UInt8) (hs : s.length ≤ 9223372036854775000) : APureV Tryd.prog 15 [.str s] (.str (textS s)) := by
  have hi := itoa_c s.length (by omega) (by omega)
  have hl := Lib.itoa_length_le s.length (by omega) (by omega)
  refine apure_of (C := cx 10 [0, 2]) (cxOk _ _) Tryd.func15 rfl (by decide) rfl (by exact Nat.le_of_ble_eq_true rfl) (by decide) ?_
  conv => whnf
  repeat (first | (refine And.intro ⟨by omega, by omega⟩ ?_; conv => whnf) | (refine And.intro (by omega) (And.intro rfl ?_); conv => whnf) | (refine And.intro rfl ?_; conv => whnf) | (refine And.intro (fun _ => ⟨by omega, by omega⟩) ?_; conv => whnf) | (refine And.intro (fun _ => by omega) (And.intro rfl ?_); conv => whnf) | (refine And.intro ⟨(by first | omega | (simp; omega)), (by first | omega | (simp; omega))⟩ ?_; conv => whnf) | (refine Exists.intro _ (And.intro rfl (And.intro (by first | omega | (simp; omega)) (And.intro ⟨rfl, rfl, rfl, rfl, rfl⟩ ?_))); conv => whnf) | (refine And.intro ⟨rfl, rfl⟩ (And.intro (by first | omega | (simp; omega)) ?_); conv => whnf) | (refine Exists.intro _ (And.intro rfl ?_); conv => whnf) | (refine And.intro (fun _ => ?_) (fun h => absurd h (by decide)); conv => whnf) | (refine And.intro (fun h => absurd h (by decide)) (fun _ => ?_); conv => whnf) | (refine .quiet (by kernel_rfl) ?_; conv => whnf))
  refine .one _ _ _ (fun _ => hi) (by repeat (first | exact .nil | (apply BorL.cons; first | exact lS rfl | exact lR rfl | exact lM rfl rfl | exact lL rfl | exact lX rfl | exact lN | exact lNl | exact lSm rfl | exact lIm rfl | exact lP rfl | exact lQ rfl | exact lB rfl rfl rfl))) (by first | exact .inl rfl | exact .inr (by repeat (first | exact flats_nil | refine flats_cons (by first | exact flat_val _ rfl | exact flat_row (fun _ => rfl) | exact flat_lst (fun _ => rfl)) ?_))) (by first | exact .inl rfl | exact .inr rfl) ?_
  conv => whnf
  repeat (first | (refine And.intro ⟨by omega, by omega⟩ ?_; conv => whnf) | (refine And.intro (by omega) (And.intro rfl ?_); conv => whnf) | (refine And.intro rfl ?_; conv => whnf) | (refine And.intro (fun _ => ⟨by omega, by omega⟩) ?_; conv => whnf) | (refine And.intro (fun _ => by omega) (And.intro rfl ?_); conv => whnf) | (refine And.intro ⟨(by first | omega | (simp; omega)), (by first | omega | (simp; omega))⟩ ?_; conv => whnf) | (refine Exists.intro _ (And.intro rfl (And.intro (by first | omega | (simp; omega)) (And.intro ⟨rfl, rfl, rfl, rfl, rfl⟩ ?_))); conv => whnf) | (refine And.intro ⟨rfl, rfl⟩ (And.intro (by first | omega | (simp; omega)) ?_); conv => whnf) | (refine Exists.intro _ (And.intro rfl ?_); conv => whnf) | (refine And.intro (fun _ => ?_) (fun h => absurd h (by decide)); conv => whnf) | (refine And.intro (fun h => absurd h (by decide)) (fun _ => ?_); conv => whnf) | (refine .quiet (by kernel_rfl) ?_; conv => whnf))
  refine And.intro (show (((Lib.itoa s.length).length + 1 : Nat) : Int) ≤ 9223372036854775807 by omega) ?_
  conv => whnf
  have e1 : (Lib.itoa s.length ++ [58]).length = (Lib.itoa s.length).length + 1 := by rw [List.length_append]; rfl
  refine And.intro (show (((Lib.itoa s.length ++ [58]).length + s.length : Nat) : Int) ≤ 9223372036854775807 by omega) ?_
  conv => whnf
  have e2 : ((Lib.itoa s.length ++ [58]) ++ s).length = (Lib.itoa s.length).length + 1 + s.length := by rw [List.length_append, e1]
  refine And.intro (by simp; omega) ?_
  conv => whnf
  rfl

theorem listI_ok (l : List Int) (hl : ∀ n ∈ l, in64 n) (hn : l.length ≤ 9223372036854775807) (hT : (listS intS l).length ≤ 140737488355328) : APureV Tryd.prog 46 [.sl 1 encI 0 l, .fn (.func 13) [] []] (.str (listS intS l)) := by
  have hi := itoa_c l.length (by omega) (by omega)
  have hil := Lib.itoa_length_le l.length (by omega) (by omega)
  refine apure_of (C := cx 26 [0, 1, 4, 5, 7, 13, 14, 15, 16]) (cxOk _ _) Tryd.func46 rfl (by decide) rfl (by exact Nat.le_of_ble_eq_true rfl) (by decide) ?_
  conv => whnf
  repeat (first | (refine And.intro ⟨by omega, by omega⟩ ?_; conv => whnf) | (refine And.intro (by omega) (And.intro rfl ?_); conv => whnf) | (refine And.intro rfl ?_; conv => whnf) | (refine And.intro (fun _ => ⟨by omega, by omega⟩) ?_; conv => whnf) | (refine And.intro (fun _ => by omega) (And.intro rfl ?_); conv => whnf) | (refine And.intro ⟨(by first | omega | (simp; omega)), (by first | omega | (simp; omega))⟩ ?_; conv => whnf) | (refine Exists.intro _ (And.intro rfl (And.intro (by first | omega | (simp; omega)) (And.intro ⟨rfl, rfl, rfl, rfl, rfl⟩ ?_))); conv => whnf) | (refine And.intro ⟨rfl, rfl⟩ (And.intro (by first | omega | (simp; omega)) ?_); conv => whnf) | (refine Exists.intro _ (And.intro rfl ?_); conv => whnf) | (refine And.intro (fun _ => ?_) (fun h => absurd h (by decide)); conv => whnf) | (refine And.intro (fun h => absurd h (by decide)) (fun _ => ?_); conv => whnf) | (refine .quiet (by kernel_rfl) ?_; conv => whnf))
  refine .one _ _ _ (fun _ => hi) (by repeat (first | exact .nil | (apply BorL.cons; first | exact lS rfl | exact lR rfl | exact lM rfl rfl | exact lL rfl | exact lX rfl | exact lN | exact lNl | exact lSm rfl | exact lIm rfl | exact lP rfl | exact lQ rfl | exact lB rfl rfl rfl))) (by first | exact .inl rfl | exact .inr (by repeat (first | exact flats_nil | refine flats_cons (by first | exact flat_val _ rfl | exact flat_row (fun _ => rfl) | exact flat_lst (fun _ => rfl)) ?_))) (by first | exact .inl rfl | exact .inr rfl) ?_
  conv => whnf
  repeat (first | (refine And.intro ⟨by omega, by omega⟩ ?_; conv => whnf) | (refine And.intro (by omega) (And.intro rfl ?_); conv => whnf) | (refine And.intro rfl ?_; conv => whnf) | (refine And.intro (fun _ => ⟨by omega, by omega⟩) ?_; conv => whnf) | (refine And.intro (fun _ => by omega) (And.intro rfl ?_); conv => whnf) | (refine And.intro ⟨(by first | omega | (simp; omega)), (by first | omega | (simp; omega))⟩ ?_; conv => whnf) | (refine Exists.intro _ (And.intro rfl (And.intro (by first | omega | (simp; omega)) (And.intro ⟨rfl, rfl, rfl, rfl, rfl⟩ ?_))); conv => whnf) | (refine And.intro ⟨rfl, rfl⟩ (And.intro (by first | omega | (simp; omega)) ?_); conv => whnf) | (refine Exists.intro _ (And.intro rfl ?_); conv => whnf) | (refine And.intro (fun _ => ?_) (fun h => absurd h (by decide)); conv => whnf) | (refine And.intro (fun h => absurd h (by decide)) (fun _ => ?_); conv => whnf) | (refine .quiet (by kernel_rfl) ?_; conv => whnf))
  refine And.intro (show (((Lib.itoa l.length).length + 1 : Nat) : Int) ≤ 9223372036854775807 by omega) ?_
  conv => whnf
  refine .raw _ _ rfl (fun h => by cases h) (write_first (headS l.length) (by unfold headS; simp; omega)) ?_
  rintro r rfl
  refine ⟨Nat.le_of_ble_eq_true rfl, ?_⟩
  conv => whnf
  have hp0 : strAVs (headS l.length) = strAVs (partS intS l 0) := by unfold partS; simp
  refine loop_up (cxOk _ _) l.length (fun _ => True) (fun k => ⟨[(0, .sl 1 encI 0 l), (1, .fn (.func 13) [] []), (5, .ptr 0 0), (13, .sl 1 encI 0 l), (14, .int .i64 l.length), (15, .int .i64 (k : Nat))], [(0, .cells 67 [.ptr 0 0, .own 1]), (1, .lst 5 1 (strAVs (partS intS l k)))], 2⟩) trivial ((wk_of [(0, .id 0), (1, .id 1)] rfl ⟨.base (.tree _ _ rfl rfl), .fn _ _ _ _ _ (by repeat (first | exact .nil | refine .cons (by first | exact .tree _ _ rfl rfl | exact .ptr _ _ _ rfl | exact .own _ _ rfl) ?_)) (by repeat (first | exact .nil | refine .cons (by first | exact .tree _ _ rfl rfl | exact .ptr _ _ _ rfl | exact .own _ _ rfl) ?_)), .base (.ptr _ _ _ rfl), .base (.tree _ _ rfl rfl), .base (.tree _ _ rfl rfl), .base (.tree _ _ rfl rfl), trivial⟩ ⟨⟨_, rfl, .cells _ _ _ _ rfl (by repeat (first | exact .nil | refine .cons (by first | exact .base (.tree _ _ rfl rfl) | exact .base (.own _ _ rfl) | exact .base (.ptr _ _ _ rfl) | exact .base (.map _ _ rfl) | exact .base (.nilown _ rfl)) ?_)) rfl⟩, ⟨_, rfl, .lst _ _ _ _ _ rfl (hp0)⟩, trivial⟩)) ?_
  intro k hk _
  have hps := fun h : k < l.length => partS_succ (f := intS) (d := 0) h
  have hpl := partS_len (f := intS) (l := l) k
  have hpl1 := partS_len (f := intS) (l := l) (k + 1)
  conv => whnf
  refine ⟨fun hd => ?_, fun hd => ?_⟩
  · have hkl : k < l.length := by
      have := of_decide_eq_true hd
      omega
    have hps := hps hkl
    have hek : (k : Int).toNat = k := Int.toNat_natCast k
    have hx := int_ok (l.getD k 0) (hl _ (by rw [List.getD_eq_getElem?_getD, List.getElem?_eq_getElem hkl]; exact List.getElem_mem hkl))
    conv => whnf
    repeat (first | (refine And.intro ⟨by omega, by omega⟩ ?_; conv => whnf) | (refine And.intro (by omega) (And.intro rfl ?_); conv => whnf) | (refine And.intro rfl ?_; conv => whnf) | (refine And.intro (fun _ => ⟨by omega, by omega⟩) ?_; conv => whnf) | (refine And.intro (fun _ => by omega) (And.intro rfl ?_); conv => whnf) | (refine And.intro ⟨(by first | omega | (simp; omega)), (by first | omega | (simp; omega))⟩ ?_; conv => whnf) | (refine Exists.intro _ (And.intro rfl (And.intro (by first | omega | (simp; omega)) (And.intro ⟨rfl, rfl, rfl, rfl, rfl⟩ ?_))); conv => whnf) | (refine And.intro ⟨rfl, rfl⟩ (And.intro (by first | omega | (simp; omega)) ?_); conv => whnf) | (refine Exists.intro _ (And.intro rfl ?_); conv => whnf) | (refine And.intro (fun _ => ?_) (fun h => absurd h (by decide)); conv => whnf) | (refine And.intro (fun h => absurd h (by decide)) (fun _ => ?_); conv => whnf) | (refine .quiet (by kernel_rfl) ?_; conv => whnf))
    rw [hek]
    refine .one _ _ _ (fun _ => hx) (by repeat (first | exact .nil | (apply BorL.cons; first | exact lS rfl | exact lR rfl | exact lM rfl rfl | exact lL rfl | exact lX rfl | exact lN | exact lNl | exact lSm rfl | exact lIm rfl | exact lP rfl | exact lQ rfl | exact lB rfl rfl rfl))) (by first | exact .inl rfl | exact .inr (by repeat (first | exact flats_nil | refine flats_cons (by first | exact flat_val _ rfl | exact flat_row (fun _ => rfl) | exact flat_lst (fun _ => rfl)) ?_))) (by first | exact .inl rfl | exact .inr rfl) ?_
    conv => whnf
    repeat (first | (refine And.intro ⟨by omega, by omega⟩ ?_; conv => whnf) | (refine And.intro (by omega) (And.intro rfl ?_); conv => whnf) | (refine And.intro rfl ?_; conv => whnf) | (refine And.intro (fun _ => ⟨by omega, by omega⟩) ?_; conv => whnf) | (refine And.intro (fun _ => by omega) (And.intro rfl ?_); conv => whnf) | (refine And.intro ⟨(by first | omega | (simp; omega)), (by first | omega | (simp; omega))⟩ ?_; conv => whnf) | (refine Exists.intro _ (And.intro rfl (And.intro (by first | omega | (simp; omega)) (And.intro ⟨rfl, rfl, rfl, rfl, rfl⟩ ?_))); conv => whnf) | (refine And.intro ⟨rfl, rfl⟩ (And.intro (by first | omega | (simp; omega)) ?_); conv => whnf) | (refine Exists.intro _ (And.intro rfl ?_); conv => whnf) | (refine And.intro (fun _ => ?_) (fun h => absurd h (by decide)); conv => whnf) | (refine And.intro (fun h => absurd h (by decide)) (fun _ => ?_); conv => whnf) | (refine .quiet (by kernel_rfl) ?_; conv => whnf))
    have hlen : (partS intS l k).length + (intS (l.getD k 0)).length ≤ 140737488355328 := by
      rw [hps, List.length_append] at hpl1
      omega
    refine .raw _ _ rfl (fun h => by cases h) (callSem_congr (write_more (partS intS l k) (intS (l.getD k 0)) hlen) (fun id hid => by
      simp only [List.mem_cons, List.not_mem_nil, or_false] at hid
      rcases hid with rfl | rfl <;> rfl)) ?_
    rintro r rfl
    refine ⟨Nat.le_of_ble_eq_true rfl, ?_⟩
    conv => whnf
    have hpe : strAVs (partS intS l k) ++ strAVs (intS (l.getD k 0)) = strAVs (partS intS l (k + 1)) := by rw [hps, strAVs_append]
    repeat (first | (refine And.intro ⟨by omega, by omega⟩ ?_; conv => whnf) | (refine And.intro (by omega) (And.intro rfl ?_); conv => whnf) | (refine And.intro rfl ?_; conv => whnf) | (refine And.intro (fun _ => ⟨by omega, by omega⟩) ?_; conv => whnf) | (refine And.intro (fun _ => by omega) (And.intro rfl ?_); conv => whnf) | (refine And.intro ⟨(by first | omega | (simp; omega)), (by first | omega | (simp; omega))⟩ ?_; conv => whnf) | (refine Exists.intro _ (And.intro rfl (And.intro (by first | omega | (simp; omega)) (And.intro ⟨rfl, rfl, rfl, rfl, rfl⟩ ?_))); conv => whnf) | (refine And.intro ⟨rfl, rfl⟩ (And.intro (by first | omega | (simp; omega)) ?_); conv => whnf) | (refine Exists.intro _ (And.intro rfl ?_); conv => whnf) | (refine And.intro (fun _ => ?_) (fun h => absurd h (by decide)); conv => whnf) | (refine And.intro (fun h => absurd h (by decide)) (fun _ => ?_); conv => whnf) | (refine .quiet (by kernel_rfl) ?_; conv => whnf))
    refine up hkl trivial ((wk_of [(0, .id 0), (1, .id 2)] rfl ⟨.base (.tree _ _ rfl rfl), .fn _ _ _ _ _ (by repeat (first | exact .nil | refine .cons (by first | exact .tree _ _ rfl rfl | exact .ptr _ _ _ rfl | exact .own _ _ rfl) ?_)) (by repeat (first | exact .nil | refine .cons (by first | exact .tree _ _ rfl rfl | exact .ptr _ _ _ rfl | exact .own _ _ rfl) ?_)), .base (.ptr _ _ _ rfl), .base (.tree _ _ rfl rfl), .base (.tree _ _ rfl rfl), .base (.tree _ _ rfl rfl), trivial⟩ ⟨⟨_, rfl, .cells _ _ _ _ rfl (by repeat (first | exact .nil | refine .cons (by first | exact .base (.tree _ _ rfl rfl) | exact .base (.own _ _ rfl) | exact .base (.ptr _ _ _ rfl) | exact .base (.map _ _ rfl) | exact .base (.nilown _ rfl)) ?_)) rfl⟩, ⟨_, rfl, .lst _ _ _ _ _ rfl (hpe)⟩, trivial⟩))
  · have hke : k = l.length := by
      have := of_decide_eq_false hd
      omega
    conv => whnf
    refine .raw _ _ rfl (fun h => by cases h) (string_of (partS intS l k) (partS_ne intS l k)) ?_
    rintro r rfl
    refine ⟨Nat.le_of_ble_eq_true rfl, ?_⟩
    conv => whnf
    refine And.intro (show (((partS intS l k).length + 1 : Nat) : Int) ≤ 9223372036854775807 by omega) ?_
    conv => whnf
    have hfe : partS intS l k ++ [93] = listS intS l := by
      unfold partS listS
      rw [hke, List.take_length]
    rw [← hfe]
    rfl

end Go.Proofs.YthepodkgphnibaaDoor

namespace Go.Proofs.YthepodkgphnibaaDoor
open Go.Own
set_option maxHeartbeats 1000000
set_option maxRecDepth 100000

theorem listT_ok (l : List (List UInt8)) (hl : ∀ s ∈ l, s.length ≤ 9223372036854775000) (hn : l.length ≤ 9223372036854775807) (hT : (listS textS l).length ≤ 140737488355328) : APureV Tryd.prog 47 [.sl 1 encS [] l, .fn (.func 15) [] []] (.str (listS textS l)) := by
  have hi := itoa_c l.length (by omega) (by omega)
  have hil := Lib.itoa_length_le l.length (by omega) (by omega)
  refine apure_of (C := cx 26 [0, 1, 4, 5, 7, 13, 14, 15, 16]) (cxOk _ _) Tryd.func47 rfl (by decide) rfl (by exact Nat.le_of_ble_eq_true rfl) (by decide) ?_
  conv => whnf
  repeat (first | (refine And.intro ⟨by omega, by omega⟩ ?_; conv => whnf) | (refine And.intro (by omega) (And.intro rfl ?_); conv => whnf) | (refine And.intro rfl ?_; conv => whnf) | (refine And.intro (fun _ => ⟨by omega, by omega⟩) ?_; conv => whnf) | (refine And.intro (fun _ => by omega) (And.intro rfl ?_); conv => whnf) | (refine And.intro ⟨(by first | omega | (simp; omega)), (by first | omega | (simp; omega))⟩ ?_; conv => whnf) | (refine Exists.intro _ (And.intro rfl (And.intro (by first | omega | (simp; omega)) (And.intro ⟨rfl, rfl, rfl, rfl, rfl⟩ ?_))); conv => whnf) | (refine And.intro ⟨rfl, rfl⟩ (And.intro (by first | omega | (simp; omega)) ?_); conv => whnf) | (refine Exists.intro _ (And.intro rfl ?_); conv => whnf) | (refine And.intro (fun _ => ?_) (fun h => absurd h (by decide)); conv => whnf) | (refine And.intro (fun h => absurd h (by decide)) (fun _ => ?_); conv => whnf) | (refine .quiet (by kernel_rfl) ?_; conv => whnf))
  refine .one _ _ _ (fun _ => hi) (by repeat (first | exact .nil | (apply BorL.cons; first | exact lS rfl | exact lR rfl | exact lM rfl rfl | exact lL rfl | exact lX rfl | exact lN | exact lNl | exact lSm rfl | exact lIm rfl | exact lP rfl | exact lQ rfl | exact lB rfl rfl rfl))) (by first | exact .inl rfl | exact .inr (by repeat (first | exact flats_nil | refine flats_cons (by first | exact flat_val _ rfl | exact flat_row (fun _ => rfl) | exact flat_lst (fun _ => rfl)) ?_))) (by first | exact .inl rfl | exact .inr rfl) ?_
  conv => whnf
  repeat (first | (refine And.intro ⟨by omega, by omega⟩ ?_; conv => whnf) | (refine And.intro (by omega) (And.intro rfl ?_); conv => whnf) | (refine And.intro rfl ?_; conv => whnf) | (refine And.intro (fun _ => ⟨by omega, by omega⟩) ?_; conv => whnf) | (refine And.intro (fun _ => by omega) (And.intro rfl ?_); conv => whnf) | (refine And.intro ⟨(by first | omega | (simp; omega)), (by first | omega | (simp; omega))⟩ ?_; conv => whnf) | (refine Exists.intro _ (And.intro rfl (And.intro (by first | omega | (simp; omega)) (And.intro ⟨rfl, rfl, rfl, rfl, rfl⟩ ?_))); conv => whnf) | (refine And.intro ⟨rfl, rfl⟩ (And.intro (by first | omega | (simp; omega)) ?_); conv => whnf) | (refine Exists.intro _ (And.intro rfl ?_); conv => whnf) | (refine And.intro (fun _ => ?_) (fun h => absurd h (by decide)); conv => whnf) | (refine And.intro (fun h => absurd h (by decide)) (fun _ => ?_); conv => whnf) | (refine .quiet (by kernel_rfl) ?_; conv => whnf))
  refine And.intro (show (((Lib.itoa l.length).length + 1 : Nat) : Int) ≤ 9223372036854775807 by omega) ?_
  conv => whnf
  refine .raw _ _ rfl (fun h => by cases h) (write_first (headS l.length) (by unfold headS; simp; omega)) ?_
  rintro r rfl
  refine ⟨Nat.le_of_ble_eq_true rfl, ?_⟩
  conv => whnf
  have hp0 : strAVs (headS l.length) = strAVs (partS textS l 0) := by unfold partS; simp
  refine loop_up (cxOk _ _) l.length (fun _ => True) (fun k => ⟨[(0, .sl 1 encS [] l), (1, .fn (.func 15) [] []), (5, .ptr 0 0), (13, .sl 1 encS [] l), (14, .int .i64 l.length), (15, .int .i64 (k : Nat))], [(0, .cells 67 [.ptr 0 0, .own 1]), (1, .lst 5 1 (strAVs (partS textS l k)))], 2⟩) trivial ((wk_of [(0, .id 0), (1, .id 1)] rfl ⟨.base (.tree _ _ rfl rfl), .fn _ _ _ _ _ (by repeat (first | exact .nil | refine .cons (by first | exact .tree _ _ rfl rfl | exact .ptr _ _ _ rfl | exact .own _ _ rfl) ?_)) (by repeat (first | exact .nil | refine .cons (by first | exact .tree _ _ rfl rfl | exact .ptr _ _ _ rfl | exact .own _ _ rfl) ?_)), .base (.ptr _ _ _ rfl), .base (.tree _ _ rfl rfl), .base (.tree _ _ rfl rfl), .base (.tree _ _ rfl rfl), trivial⟩ ⟨⟨_, rfl, .cells _ _ _ _ rfl (by repeat (first | exact .nil | refine .cons (by first | exact .base (.tree _ _ rfl rfl) | exact .base (.own _ _ rfl) | exact .base (.ptr _ _ _ rfl) | exact .base (.map _ _ rfl) | exact .base (.nilown _ rfl)) ?_)) rfl⟩, ⟨_, rfl, .lst _ _ _ _ _ rfl (hp0)⟩, trivial⟩)) ?_
  intro k hk _
  have hps := fun h : k < l.length => partS_succ (f := textS) (d := []) h
  have hpl := partS_len (f := textS) (l := l) k
  have hpl1 := partS_len (f := textS) (l := l) (k + 1)
  conv => whnf
  refine ⟨fun hd => ?_, fun hd => ?_⟩
  · have hkl : k < l.length := by
      have := of_decide_eq_true hd
      omega
    have hps := hps hkl
    have hek : (k : Int).toNat = k := Int.toNat_natCast k
    have hx := text_ok (l.getD k []) (hl _ (by rw [List.getD_eq_getElem?_getD, List.getElem?_eq_getElem hkl]; exact List.getElem_mem hkl))
    conv => whnf
    repeat (first | (refine And.intro ⟨by omega, by omega⟩ ?_; conv => whnf) | (refine And.intro (by omega) (And.intro rfl ?_); conv => whnf) | (refine And.intro rfl ?_; conv => whnf) | (refine And.intro (fun _ => ⟨by omega, by omega⟩) ?_; conv => whnf) | (refine And.intro (fun _ => by omega) (And.intro rfl ?_); conv => whnf) | (refine And.intro ⟨(by first | omega | (simp; omega)), (by first | omega | (simp; omega))⟩ ?_; conv => whnf) | (refine Exists.intro _ (And.intro rfl (And.intro (by first | omega | (simp; omega)) (And.intro ⟨rfl, rfl, rfl, rfl, rfl⟩ ?_))); conv => whnf) | (refine And.intro ⟨rfl, rfl⟩ (And.intro (by first | omega | (simp; omega)) ?_); conv => whnf) | (refine Exists.intro _ (And.intro rfl ?_); conv => whnf) | (refine And.intro (fun _ => ?_) (fun h => absurd h (by decide)); conv => whnf) | (refine And.intro (fun h => absurd h (by decide)) (fun _ => ?_); conv => whnf) | (refine .quiet (by kernel_rfl) ?_; conv => whnf))
    rw [hek]
    refine .one _ _ _ (fun _ => hx) (by repeat (first | exact .nil | (apply BorL.cons; first | exact lS rfl | exact lR rfl | exact lM rfl rfl | exact lL rfl | exact lX rfl | exact lN | exact lNl | exact lSm rfl | exact lIm rfl | exact lP rfl | exact lQ rfl | exact lB rfl rfl rfl))) (by first | exact .inl rfl | exact .inr (by repeat (first | exact flats_nil | refine flats_cons (by first | exact flat_val _ rfl | exact flat_row (fun _ => rfl) | exact flat_lst (fun _ => rfl)) ?_))) (by first | exact .inl rfl | exact .inr rfl) ?_
    conv => whnf
    repeat (first | (refine And.intro ⟨by omega, by omega⟩ ?_; conv => whnf) | (refine And.intro (by omega) (And.intro rfl ?_); conv => whnf) | (refine And.intro rfl ?_; conv => whnf) | (refine And.intro (fun _ => ⟨by omega, by omega⟩) ?_; conv => whnf) | (refine And.intro (fun _ => by omega) (And.intro rfl ?_); conv => whnf) | (refine And.intro ⟨(by first | omega | (simp; omega)), (by first | omega | (simp; omega))⟩ ?_; conv => whnf) | (refine Exists.intro _ (And.intro rfl (And.intro (by first | omega | (simp; omega)) (And.intro ⟨rfl, rfl, rfl, rfl, rfl⟩ ?_))); conv => whnf) | (refine And.intro ⟨rfl, rfl⟩ (And.intro (by first | omega | (simp; omega)) ?_); conv => whnf) | (refine Exists.intro _ (And.intro rfl ?_); conv => whnf) | (refine And.intro (fun _ => ?_) (fun h => absurd h (by decide)); conv => whnf) | (refine And.intro (fun h => absurd h (by decide)) (fun _ => ?_); conv => whnf) | (refine .quiet (by kernel_rfl) ?_; conv => whnf))
    have hlen : (partS textS l k).length + (textS (l.getD k [])).length ≤ 140737488355328 := by
      rw [hps, List.length_append] at hpl1
      omega
    refine .raw _ _ rfl (fun h => by cases h) (callSem_congr (write_more (partS textS l k) (textS (l.getD k [])) hlen) (fun id hid => by
      simp only [List.mem_cons, List.not_mem_nil, or_false] at hid
      rcases hid with rfl | rfl <;> rfl)) ?_
    rintro r rfl
    refine ⟨Nat.le_of_ble_eq_true rfl, ?_⟩
    conv => whnf
    have hpe : strAVs (partS textS l k) ++ strAVs (textS (l.getD k [])) = strAVs (partS textS l (k + 1)) := by rw [hps, strAVs_append]
    repeat (first | (refine And.intro ⟨by omega, by omega⟩ ?_; conv => whnf) | (refine And.intro (by omega) (And.intro rfl ?_); conv => whnf) | (refine And.intro rfl ?_; conv => whnf) | (refine And.intro (fun _ => ⟨by omega, by omega⟩) ?_; conv => whnf) | (refine And.intro (fun _ => by omega) (And.intro rfl ?_); conv => whnf) | (refine And.intro ⟨(by first | omega | (simp; omega)), (by first | omega | (simp; omega))⟩ ?_; conv => whnf) | (refine Exists.intro _ (And.intro rfl (And.intro (by first | omega | (simp; omega)) (And.intro ⟨rfl, rfl, rfl, rfl, rfl⟩ ?_))); conv => whnf) | (refine And.intro ⟨rfl, rfl⟩ (And.intro (by first | omega | (simp; omega)) ?_); conv => whnf) | (refine Exists.intro _ (And.intro rfl ?_); conv => whnf) | (refine And.intro (fun _ => ?_) (fun h => absurd h (by decide)); conv => whnf) | (refine And.intro (fun h => absurd h (by decide)) (fun _ => ?_); conv => whnf) | (refine .quiet (by kernel_rfl) ?_; conv => whnf))
    refine up hkl trivial ((wk_of [(0, .id 0), (1, .id 2)] rfl ⟨.base (.tree _ _ rfl rfl), .fn _ _ _ _ _ (by repeat (first | exact .nil | refine .cons (by first | exact .tree _ _ rfl rfl | exact .ptr _ _ _ rfl | exact .own _ _ rfl) ?_)) (by repeat (first | exact .nil | refine .cons (by first | exact .tree _ _ rfl rfl | exact .ptr _ _ _ rfl | exact .own _ _ rfl) ?_)), .base (.ptr _ _ _ rfl), .base (.tree _ _ rfl rfl), .base (.tree _ _ rfl rfl), .base (.tree _ _ rfl rfl), trivial⟩ ⟨⟨_, rfl, .cells _ _ _ _ rfl (by repeat (first | exact .nil | refine .cons (by first | exact .base (.tree _ _ rfl rfl) | exact .base (.own _ _ rfl) | exact .base (.ptr _ _ _ rfl) | exact .base (.map _ _ rfl) | exact .base (.nilown _ rfl)) ?_)) rfl⟩, ⟨_, rfl, .lst _ _ _ _ _ rfl (hpe)⟩, trivial⟩))
  · have hke : k = l.length := by
      have := of_decide_eq_false hd
      omega
    conv => whnf
    refine .raw _ _ rfl (fun h => by cases h) (string_of (partS textS l k) (partS_ne textS l k)) ?_
    rintro r rfl
    refine ⟨Nat.le_of_ble_eq_true rfl, ?_⟩
    conv => whnf
    refine And.intro (show (((partS textS l k).length + 1 : Nat) : Int) ≤ 9223372036854775807 by omega) ?_
    conv => whnf
    have hfe : partS textS l k ++ [93] = listS textS l := by
      unfold partS listS
      rw [hke, List.take_length]
    rw [← hfe]
    rfl


theorem nums_ok (l : List Int) (hl : ∀ n ∈ l, in64 n) (hn : l.length ≤ 9223372036854775807) (hT : (listS intS l).length ≤ 140737488355328) : APureV Tryd.prog 17 [.sl 1 encI 0 l] (.str (listS intS l)) := by
  have hi := listI_ok l hl hn hT
  refine apure_of (C := cx 5 [0, 2]) (cxOk _ _) Tryd.func17 rfl (by decide) rfl (by exact Nat.le_of_ble_eq_true rfl) (by decide) ?_
  conv => whnf
  refine .one _ _ _ (fun _ => hi) (by repeat (first | exact .nil | (apply BorL.cons; first | exact lS rfl | exact lR rfl | exact lM rfl rfl | exact lL rfl | exact lX rfl | exact lN | exact lNl | exact lSm rfl | exact lIm rfl | exact lP rfl | exact lQ rfl | exact lB rfl rfl rfl))) (by first | exact .inl rfl | exact .inr (by repeat (first | exact flats_nil | refine flats_cons (by first | exact flat_val _ rfl | exact flat_row (fun _ => rfl) | exact flat_lst (fun _ => rfl)) ?_))) (by first | exact .inl rfl | exact .inr rfl) ?_
  conv => whnf
  repeat (first | (refine And.intro ⟨by omega, by omega⟩ ?_; conv => whnf) | (refine And.intro (by omega) (And.intro rfl ?_); conv => whnf) | (refine And.intro rfl ?_; conv => whnf) | (refine And.intro (fun _ => ⟨by omega, by omega⟩) ?_; conv => whnf) | (refine And.intro (fun _ => by omega) (And.intro rfl ?_); conv => whnf) | (refine And.intro ⟨(by first | omega | (simp; omega)), (by first | omega | (simp; omega))⟩ ?_; conv => whnf) | (refine Exists.intro _ (And.intro rfl (And.intro (by first | omega | (simp; omega)) (And.intro ⟨rfl, rfl, rfl, rfl, rfl⟩ ?_))); conv => whnf) | (refine And.intro ⟨rfl, rfl⟩ (And.intro (by first | omega | (simp; omega)) ?_); conv => whnf) | (refine Exists.intro _ (And.intro rfl ?_); conv => whnf) | (refine And.intro (fun _ => ?_) (fun h => absurd h (by decide)); conv => whnf) | (refine And.intro (fun h => absurd h (by decide)) (fun _ => ?_); conv => whnf) | (refine .quiet (by kernel_rfl) ?_; conv => whnf))
  rfl
theorem texts_ok (l : List (List UInt8)) (hl : ∀ s ∈ l, s.length ≤ 9223372036854775000) (hn : l.length ≤ 9223372036854775807) (hT : (listS textS l).length ≤ 140737488355328) : APureV Tryd.prog 19 [.sl 1 encS [] l] (.str (listS textS l)) := by
  have hi := listT_ok l hl hn hT
  refine apure_of (C := cx 5 [0, 2]) (cxOk _ _) Tryd.func19 rfl (by decide) rfl (by exact Nat.le_of_ble_eq_true rfl) (by decide) ?_
  conv => whnf
  refine .one _ _ _ (fun _ => hi) (by repeat (first | exact .nil | (apply BorL.cons; first | exact lS rfl | exact lR rfl | exact lM rfl rfl | exact lL rfl | exact lX rfl | exact lN | exact lNl | exact lSm rfl | exact lIm rfl | exact lP rfl | exact lQ rfl | exact lB rfl rfl rfl))) (by first | exact .inl rfl | exact .inr (by repeat (first | exact flats_nil | refine flats_cons (by first | exact flat_val _ rfl | exact flat_row (fun _ => rfl) | exact flat_lst (fun _ => rfl)) ?_))) (by first | exact .inl rfl | exact .inr rfl) ?_
  conv => whnf
  repeat (first | (refine And.intro ⟨by omega, by omega⟩ ?_; conv => whnf) | (refine And.intro (by omega) (And.intro rfl ?_); conv => whnf) | (refine And.intro rfl ?_; conv => whnf) | (refine And.intro (fun _ => ⟨by omega, by omega⟩) ?_; conv => whnf) | (refine And.intro (fun _ => by omega) (And.intro rfl ?_); conv => whnf) | (refine And.intro ⟨(by first | omega | (simp; omega)), (by first | omega | (simp; omega))⟩ ?_; conv => whnf) | (refine Exists.intro _ (And.intro rfl (And.intro (by first | omega | (simp; omega)) (And.intro ⟨rfl, rfl, rfl, rfl, rfl⟩ ?_))); conv => whnf) | (refine And.intro ⟨rfl, rfl⟩ (And.intro (by first | omega | (simp; omega)) ?_); conv => whnf) | (refine Exists.intro _ (And.intro rfl ?_); conv => whnf) | (refine And.intro (fun _ => ?_) (fun h => absurd h (by decide)); conv => whnf) | (refine And.intro (fun h => absurd h (by decide)) (fun _ => ?_); conv => whnf) | (refine .quiet (by kernel_rfl) ?_; conv => whnf))
  rfl

/-! ### The reader's parts -/
theorem fail_ok (s : List UInt8) (b : Bool) : AIO Tryd.prog 49 [.ptr 0 0] [.cells 54 [.str s, .bool b]] (fun bs rs => bs = [.cells 54 [.str [], .bool true]] ∧ rs = []) := by
  refine aio_of (C := cxP 1 8 [0]) (cxPOk _ _ _) Tryd.func49 rfl (by decide) rfl (by exact Nat.le_of_ble_eq_true rfl) (by decide) rfl rfl ?_
  conv => whnf
  exact ⟨rfl, rfl⟩
theorem left_ok (s : List UInt8) (b : Bool) : AIO Tryd.prog 28 [.ptr 0 0] [.cells 54 [.str s, .bool b]] (fun bs rs => bs = [.cells 54 [.str s, .bool b]] ∧ rs = [.val (.int .i64 s.length)]) := by
  refine aio_of (C := cxP 1 8 [0, 2]) (cxPOk _ _ _) Tryd.func28 rfl (by decide) rfl (by exact Nat.le_of_ble_eq_true rfl) (by decide) rfl rfl ?_
  conv => whnf
  exact ⟨rfl, rfl⟩

end Go.Proofs.YthepodkgphnibaaDoor

namespace Go.Proofs.YthepodkgphnibaaDoor
open Go.Own
set_option maxHeartbeats 1000000
set_option maxRecDepth 100000

/-! ### Reading a number -/
def numR (c : Int) (least : Int) (s : List UInt8) : Option (Int × List UInt8) :=
  let at_ := Lib.indexByte (s.take (min s.length 21)) c.toNat.toUInt8
  if at_ < 0 then none
  else match Lib.atoiAll ((s.take (min s.length 21)).take at_.toNat) with
    | .ok n => if Lib.itoa n = (s.take (min s.length 21)).take at_.toNat ∧ least ≤ n then some (n, s.drop (at_.toNat + 1)) else none
    | _ => none
def closeR (e s : List UInt8) : Option (List UInt8) := if Lib.hasPrefix s e = true then some (Lib.trimPrefix s e) else none
/-- What is left of a reader. -/
def rd (o : Option (List UInt8)) (b : Bool) : AB :=
  match o with
  | some r => .cells 54 [.str r, .bool b]
  | none => .cells 54 [.str [], .bool true]

theorem close_ok (e s : List UInt8) (b : Bool) : AIO Tryd.prog 50 [.ptr 0 0, .str e] [.cells 54 [.str s, .bool b]] (fun bs rs => bs = [rd (closeR e s) b] ∧ rs = []) := by
  have hc := cut_c s e
  refine aio_of (C := cxP 1 23 [0, 1, 4, 5, 20]) (cxPOk _ _ _) Tryd.func50 rfl (by decide) rfl (by exact Nat.le_of_ble_eq_true rfl) (by decide) rfl rfl ?_
  conv => whnf
  refine .one _ _ _ (fun _ => hc) (by repeat (first | exact .nil | (apply BorL.cons; first | exact lS rfl | exact lR rfl | exact lM rfl rfl | exact lL rfl | exact lX rfl | exact lN | exact lNl | exact lSm rfl | exact lIm rfl | exact lP rfl | exact lQ rfl | exact lB rfl rfl rfl))) (by first | exact .inl rfl | exact .inr (by repeat (first | exact flats_nil | refine flats_cons (by first | exact flat_val _ rfl | exact flat_row (fun _ => rfl) | exact flat_lst (fun _ => rfl)) ?_))) (by first | exact .inl rfl | exact .inr rfl) ?_
  conv => whnf
  repeat (first | (refine And.intro ⟨by omega, by omega⟩ ?_; conv => whnf) | (refine And.intro (by omega) (And.intro rfl ?_); conv => whnf) | (refine And.intro rfl ?_; conv => whnf) | (refine And.intro (fun _ => ⟨by omega, by omega⟩) ?_; conv => whnf) | (refine And.intro (fun _ => by omega) (And.intro rfl ?_); conv => whnf) | (refine And.intro ⟨(by first | omega | (simp; omega)), (by first | omega | (simp; omega))⟩ ?_; conv => whnf) | (refine Exists.intro _ (And.intro rfl (And.intro (by first | omega | (simp; omega)) (And.intro ⟨rfl, rfl, rfl, rfl, rfl⟩ ?_))); conv => whnf) | (refine And.intro ⟨rfl, rfl⟩ (And.intro (by first | omega | (simp; omega)) ?_); conv => whnf) | (refine Exists.intro _ (And.intro rfl ?_); conv => whnf) | (refine And.intro (fun _ => ?_) (fun h => absurd h (by decide)); conv => whnf) | (refine And.intro (fun h => absurd h (by decide)) (fun _ => ?_); conv => whnf) | (refine .quiet (by kernel_rfl) ?_; conv => whnf))
  refine ⟨fun hd => ?_, fun hd => ?_⟩
  · have hR : closeR e s = none := by unfold closeR; rw [if_neg (by simpa using hd)]
    rw [hR]
    conv => whnf
    refine .raw _ _ rfl (fun h => by cases h) (callio_sem (fail_ok (Lib.trimPrefix s e) b) [0] _ rfl rfl ⟨rfl, trivial⟩ (by repeat (first | exact .nil | (apply BorL.cons; first | exact .map _ _ rfl | exact .ptr _ _ _ rfl | exact .own _ _ rfl | exact .fnp _ _ _ _ rfl | (apply BorIO.lend; first | exact lS rfl | exact lR rfl | exact lM rfl rfl | exact lL rfl | exact lX rfl | exact lN | exact lNl | exact lSm rfl | exact lIm rfl | exact lP rfl | exact lQ rfl | exact lB rfl rfl rfl)))) rfl (by first | exact .inl rfl | exact .inr (fun b rs h => by obtain ⟨rfl, rfl⟩ := h; exact ⟨by repeat (first | exact flats_nil | refine flats_cons (by first | exact flat_val _ rfl | exact flat_row (fun _ => rfl) | exact flat_lst (fun _ => rfl)) ?_), by repeat (first | exact flats0 | refine flats1 (by first | exact flatB_row (fun _ => rfl) | exact flatB_lst (fun _ => rfl) | exact flatB_smap (fun _ => rfl) | exact flatB_imap (fun _ => rfl) | exact flatB_cells rfl) ?_)⟩))) ?_
    rintro r ⟨b', rs, ⟨rfl, rfl⟩, rfl⟩
    refine ⟨tn_ge _ _, ?_⟩
    conv => whnf
    exact ⟨rfl, rfl⟩
  · have hR : closeR e s = some (Lib.trimPrefix s e) := by unfold closeR; rw [if_pos (by simpa using hd)]
    rw [hR]
    conv => whnf
    exact ⟨rfl, rfl⟩

theorem number_ok (c least : Int) (s : List UInt8) (b : Bool) (hs : s.length ≤ 9223372036854775000) : AIO Tryd.prog 48 [.ptr 0 0, .int .u8 c, .int .i64 least] [.cells 54 [.str s, .bool b]] (fun bs rs => bs = [rd ((numR c least s).map (·.2)) b] ∧ rs = [.val (.int .i64 (((numR c least s).map (·.1)).getD 0))]) := by
  have hm : (min (s.length : Int) 21).toNat = min s.length 21 := by omega
  have hi := index_c (s.take (min (s.length : Int) 21).toNat) c
  have hR : numR c least s = if Lib.indexByte (s.take (min s.length 21)) c.toNat.toUInt8 < 0 then none
      else match Lib.atoiAll ((s.take (min s.length 21)).take (Lib.indexByte (s.take (min s.length 21)) c.toNat.toUInt8).toNat) with
        | .ok n => if Lib.itoa n = (s.take (min s.length 21)).take (Lib.indexByte (s.take (min s.length 21)) c.toNat.toUInt8).toNat ∧ least ≤ n then some (n, s.drop ((Lib.indexByte (s.take (min s.length 21)) c.toNat.toUInt8).toNat + 1)) else none
        | _ => none := rfl
  rw [hm] at hi
  have hml : (s.take (min s.length 21)).length = min s.length 21 := by rw [List.length_take]; omega
  generalize hh : s.take (min s.length 21) = h at *
  generalize ha : Lib.indexByte h c.toNat.toUInt8 = p at *
  have hcut : s.take (min (s.length : Int) 21).toNat = h := by rw [hm, hh]
  refine aio_of (C := cxP 1 64 [0, 1, 2, 6, 7, 8, 9, 10, 26, 50]) (cxPOk _ _ _) Tryd.func48 rfl (by decide) rfl (by exact Nat.le_of_ble_eq_true rfl) (by decide) rfl rfl ?_
  conv => whnf
  refine .quiet (by kernel_rfl) ?_
  conv => whnf
  repeat (first | (refine And.intro ⟨by omega, by omega⟩ ?_; conv => whnf) | (refine And.intro (by omega) (And.intro rfl ?_); conv => whnf) | (refine And.intro rfl ?_; conv => whnf) | (refine And.intro (fun _ => ⟨by omega, by omega⟩) ?_; conv => whnf) | (refine And.intro (fun _ => by omega) (And.intro rfl ?_); conv => whnf) | (refine And.intro ⟨(by first | omega | (simp; omega)), (by first | omega | (simp; omega))⟩ ?_; conv => whnf) | (refine Exists.intro _ (And.intro rfl (And.intro (by first | omega | (simp; omega)) (And.intro ⟨rfl, rfl, rfl, rfl, rfl⟩ ?_))); conv => whnf) | (refine And.intro ⟨rfl, rfl⟩ (And.intro (by first | omega | (simp; omega)) ?_); conv => whnf) | (refine Exists.intro _ (And.intro rfl ?_); conv => whnf) | (refine And.intro (fun _ => ?_) (fun h => absurd h (by decide)); conv => whnf) | (refine And.intro (fun h => absurd h (by decide)) (fun _ => ?_); conv => whnf) | (refine .quiet (by kernel_rfl) ?_; conv => whnf))
  simp only [Option.map_none, Option.map_some, cut]
  rw [hcut]
  refine .one _ _ _ (fun _ => hi) (by repeat (first | exact .nil | (apply BorL.cons; first | exact lS rfl | exact lR rfl | exact lM rfl rfl | exact lL rfl | exact lX rfl | exact lN | exact lNl | exact lSm rfl | exact lIm rfl | exact lP rfl | exact lQ rfl | exact lB rfl rfl rfl))) (by first | exact .inl rfl | exact .inr (by repeat (first | exact flats_nil | refine flats_cons (by first | exact flat_val _ rfl | exact flat_row (fun _ => rfl) | exact flat_lst (fun _ => rfl)) ?_))) (by first | exact .inl rfl | exact .inr rfl) ?_
  conv => whnf
  repeat (first | (refine And.intro ⟨by omega, by omega⟩ ?_; conv => whnf) | (refine And.intro (by omega) (And.intro rfl ?_); conv => whnf) | (refine And.intro rfl ?_; conv => whnf) | (refine And.intro (fun _ => ⟨by omega, by omega⟩) ?_; conv => whnf) | (refine And.intro (fun _ => by omega) (And.intro rfl ?_); conv => whnf) | (refine And.intro ⟨(by first | omega | (simp; omega)), (by first | omega | (simp; omega))⟩ ?_; conv => whnf) | (refine Exists.intro _ (And.intro rfl (And.intro (by first | omega | (simp; omega)) (And.intro ⟨rfl, rfl, rfl, rfl, rfl⟩ ?_))); conv => whnf) | (refine And.intro ⟨rfl, rfl⟩ (And.intro (by first | omega | (simp; omega)) ?_); conv => whnf) | (refine Exists.intro _ (And.intro rfl ?_); conv => whnf) | (refine And.intro (fun _ => ?_) (fun h => absurd h (by decide)); conv => whnf) | (refine And.intro (fun h => absurd h (by decide)) (fun _ => ?_); conv => whnf) | (refine .quiet (by kernel_rfl) ?_; conv => whnf))
  refine ⟨fun hd => ?_, fun hd => ?_⟩
  · rw [if_pos (of_decide_eq_true hd)] at hR
    rw [hR]
    conv => whnf
    refine .raw _ _ rfl (fun h => by cases h) (callio_sem (fail_ok s b) [0] _ rfl rfl ⟨rfl, trivial⟩ (by repeat (first | exact .nil | (apply BorL.cons; first | exact .map _ _ rfl | exact .ptr _ _ _ rfl | exact .own _ _ rfl | exact .fnp _ _ _ _ rfl | (apply BorIO.lend; first | exact lS rfl | exact lR rfl | exact lM rfl rfl | exact lL rfl | exact lX rfl | exact lN | exact lNl | exact lSm rfl | exact lIm rfl | exact lP rfl | exact lQ rfl | exact lB rfl rfl rfl)))) rfl (by first | exact .inl rfl | exact .inr (fun b rs h => by obtain ⟨rfl, rfl⟩ := h; exact ⟨by repeat (first | exact flats_nil | refine flats_cons (by first | exact flat_val _ rfl | exact flat_row (fun _ => rfl) | exact flat_lst (fun _ => rfl)) ?_), by repeat (first | exact flats0 | refine flats1 (by first | exact flatB_row (fun _ => rfl) | exact flatB_lst (fun _ => rfl) | exact flatB_smap (fun _ => rfl) | exact flatB_imap (fun _ => rfl) | exact flatB_cells rfl) ?_)⟩))) ?_
    rintro r ⟨b', rs, ⟨rfl, rfl⟩, rfl⟩
    refine ⟨tn_ge _ _, ?_⟩
    conv => whnf
    exact ⟨rfl, rfl⟩
  · have hp0 : ¬ p < 0 := of_decide_eq_false hd
    rw [if_neg hp0] at hR
    obtain ⟨o, rfl⟩ : ∃ o : Nat, p = (o : Int) := ⟨p.toNat, by omega⟩
    have hol : o < h.length := (List.getElem?_eq_some_iff.1 (Lib.indexByte_some ha).1).1
    rw [Int.toNat_natCast] at hR
    have hat := atoi_c (h.take o) (by rw [List.length_take]; omega)
    have het : (o : Int).toNat = o := Int.toNat_natCast o
    generalize ht : h.take o = t at *
    have hcut2 : h.take (o : Int).toNat = t := by rw [het, ht]
    conv => whnf
    refine And.intro ⟨by omega, by omega, by omega⟩ ?_
    conv => whnf
    simp only [Option.map_none, Option.map_some, cut]
    rw [hcut2]
    unfold atoiR at hat
    rcases hr : Lib.atoiAll t with n | _ | _
    · rw [hr] at hat hR
      obtain ⟨n0, n1⟩ := Lib.atoiAll_bounds hr
      have hit := itoa_c n n0 n1
      refine .one _ _ _ (fun _ => hat) (by repeat (first | exact .nil | (apply BorL.cons; first | exact lS rfl | exact lR rfl | exact lM rfl rfl | exact lL rfl | exact lX rfl | exact lN | exact lNl | exact lSm rfl | exact lIm rfl | exact lP rfl | exact lQ rfl | exact lB rfl rfl rfl))) (by first | exact .inl rfl | exact .inr (by repeat (first | exact flats_nil | refine flats_cons (by first | exact flat_val _ rfl | exact flat_row (fun _ => rfl) | exact flat_lst (fun _ => rfl)) ?_))) (by first | exact .inl rfl | exact .inr rfl) ?_
      conv => whnf
      refine .quiet (by kernel_rfl) ?_
      conv => whnf
      repeat (first | (refine And.intro ⟨by omega, by omega⟩ ?_; conv => whnf) | (refine And.intro (by omega) (And.intro rfl ?_); conv => whnf) | (refine And.intro rfl ?_; conv => whnf) | (refine And.intro (fun _ => ⟨by omega, by omega⟩) ?_; conv => whnf) | (refine And.intro (fun _ => by omega) (And.intro rfl ?_); conv => whnf) | (refine And.intro ⟨(by first | omega | (simp; omega)), (by first | omega | (simp; omega))⟩ ?_; conv => whnf) | (refine Exists.intro _ (And.intro rfl (And.intro (by first | omega | (simp; omega)) (And.intro ⟨rfl, rfl, rfl, rfl, rfl⟩ ?_))); conv => whnf) | (refine And.intro ⟨rfl, rfl⟩ (And.intro (by first | omega | (simp; omega)) ?_); conv => whnf) | (refine Exists.intro _ (And.intro rfl ?_); conv => whnf) | (refine And.intro (fun _ => ?_) (fun h => absurd h (by decide)); conv => whnf) | (refine And.intro (fun h => absurd h (by decide)) (fun _ => ?_); conv => whnf) | (refine .quiet (by kernel_rfl) ?_; conv => whnf))
      refine .mk _ _ _ _ (fun _ => hit) (by repeat (first | exact .nil | (apply BorL.cons; first | exact lS rfl | exact lR rfl | exact lM rfl rfl | exact lL rfl | exact lX rfl | exact lN | exact lNl | exact lSm rfl | exact lIm rfl | exact lP rfl | exact lQ rfl | exact lB rfl rfl rfl))) rfl ?_
      conv => whnf
      repeat (first | (refine And.intro ⟨by omega, by omega⟩ ?_; conv => whnf) | (refine And.intro (by omega) (And.intro rfl ?_); conv => whnf) | (refine And.intro rfl ?_; conv => whnf) | (refine And.intro (fun _ => ⟨by omega, by omega⟩) ?_; conv => whnf) | (refine And.intro (fun _ => by omega) (And.intro rfl ?_); conv => whnf) | (refine And.intro ⟨(by first | omega | (simp; omega)), (by first | omega | (simp; omega))⟩ ?_; conv => whnf) | (refine Exists.intro _ (And.intro rfl (And.intro (by first | omega | (simp; omega)) (And.intro ⟨rfl, rfl, rfl, rfl, rfl⟩ ?_))); conv => whnf) | (refine And.intro ⟨rfl, rfl⟩ (And.intro (by first | omega | (simp; omega)) ?_); conv => whnf) | (refine Exists.intro _ (And.intro rfl ?_); conv => whnf) | (refine And.intro (fun _ => ?_) (fun h => absurd h (by decide)); conv => whnf) | (refine And.intro (fun h => absurd h (by decide)) (fun _ => ?_); conv => whnf) | (refine .quiet (by kernel_rfl) ?_; conv => whnf))
      simp only [Option.map_none, Option.map_some, cut]
      replace hR : numR c least s = if Lib.itoa n = t ∧ least ≤ n then some (n, s.drop (o + 1)) else none := hR
      by_cases hok : Lib.itoa n = t ∧ least ≤ n
      · rw [if_pos hok] at hR
        rw [hR]
        refine ⟨fun hx => ?_, fun hx => ?_⟩
        · simp [hok.1, ht] at hx
          omega
        · conv => whnf
          refine And.intro (by omega) ?_
          conv => whnf
          refine And.intro ⟨by omega, by omega, by omega⟩ ?_
          conv => whnf
          have he1 : ((o : Int) + 1).toNat = o + 1 := by omega
          refine ⟨?_, rfl⟩
          show [AB.cells 54 [.str (s.drop ((o : Int) + 1).toNat), .bool b]] = _
          rw [he1]
          rfl
      · rw [if_neg hok] at hR
        rw [hR]
        refine ⟨fun hx => ?_, fun hx => ?_⟩
        · conv => whnf
          refine .raw _ _ rfl (fun h => by cases h) (callio_sem (fail_ok s b) [0] _ rfl rfl ⟨rfl, trivial⟩ (by repeat (first | exact .nil | (apply BorL.cons; first | exact .map _ _ rfl | exact .ptr _ _ _ rfl | exact .own _ _ rfl | exact .fnp _ _ _ _ rfl | (apply BorIO.lend; first | exact lS rfl | exact lR rfl | exact lM rfl rfl | exact lL rfl | exact lX rfl | exact lN | exact lNl | exact lSm rfl | exact lIm rfl | exact lP rfl | exact lQ rfl | exact lB rfl rfl rfl)))) rfl (by first | exact .inl rfl | exact .inr (fun b rs h => by obtain ⟨rfl, rfl⟩ := h; exact ⟨by repeat (first | exact flats_nil | refine flats_cons (by first | exact flat_val _ rfl | exact flat_row (fun _ => rfl) | exact flat_lst (fun _ => rfl)) ?_), by repeat (first | exact flats0 | refine flats1 (by first | exact flatB_row (fun _ => rfl) | exact flatB_lst (fun _ => rfl) | exact flatB_smap (fun _ => rfl) | exact flatB_imap (fun _ => rfl) | exact flatB_cells rfl) ?_)⟩))) ?_
          rintro r ⟨b', rs, ⟨rfl, rfl⟩, rfl⟩
          refine ⟨tn_ge _ _, ?_⟩
          conv => whnf
          exact ⟨rfl, rfl⟩
        · simp [ht] at hx
          exact (hok ⟨hx.1, by omega⟩).elim
    · rw [hr] at hat hR
      rw [hR]
      have hit := itoa_c 0 (by omega) (by omega)
      refine .one _ _ _ (fun _ => hat) (by repeat (first | exact .nil | (apply BorL.cons; first | exact lS rfl | exact lR rfl | exact lM rfl rfl | exact lL rfl | exact lX rfl | exact lN | exact lNl | exact lSm rfl | exact lIm rfl | exact lP rfl | exact lQ rfl | exact lB rfl rfl rfl))) (by first | exact .inl rfl | exact .inr (by repeat (first | exact flats_nil | refine flats_cons (by first | exact flat_val _ rfl | exact flat_row (fun _ => rfl) | exact flat_lst (fun _ => rfl)) ?_))) (by first | exact .inl rfl | exact .inr rfl) ?_
      conv => whnf
      refine .quiet (by kernel_rfl) ?_
      conv => whnf
      repeat (first | (refine And.intro ⟨by omega, by omega⟩ ?_; conv => whnf) | (refine And.intro (by omega) (And.intro rfl ?_); conv => whnf) | (refine And.intro rfl ?_; conv => whnf) | (refine And.intro (fun _ => ⟨by omega, by omega⟩) ?_; conv => whnf) | (refine And.intro (fun _ => by omega) (And.intro rfl ?_); conv => whnf) | (refine And.intro ⟨(by first | omega | (simp; omega)), (by first | omega | (simp; omega))⟩ ?_; conv => whnf) | (refine Exists.intro _ (And.intro rfl (And.intro (by first | omega | (simp; omega)) (And.intro ⟨rfl, rfl, rfl, rfl, rfl⟩ ?_))); conv => whnf) | (refine And.intro ⟨rfl, rfl⟩ (And.intro (by first | omega | (simp; omega)) ?_); conv => whnf) | (refine Exists.intro _ (And.intro rfl ?_); conv => whnf) | (refine And.intro (fun _ => ?_) (fun h => absurd h (by decide)); conv => whnf) | (refine And.intro (fun h => absurd h (by decide)) (fun _ => ?_); conv => whnf) | (refine .quiet (by kernel_rfl) ?_; conv => whnf))
      refine .mk _ _ _ _ (fun _ => hit) (by repeat (first | exact .nil | (apply BorL.cons; first | exact lS rfl | exact lR rfl | exact lM rfl rfl | exact lL rfl | exact lX rfl | exact lN | exact lNl | exact lSm rfl | exact lIm rfl | exact lP rfl | exact lQ rfl | exact lB rfl rfl rfl))) rfl ?_
      conv => whnf
      repeat (first | (refine And.intro ⟨by omega, by omega⟩ ?_; conv => whnf) | (refine And.intro (by omega) (And.intro rfl ?_); conv => whnf) | (refine And.intro rfl ?_; conv => whnf) | (refine And.intro (fun _ => ⟨by omega, by omega⟩) ?_; conv => whnf) | (refine And.intro (fun _ => by omega) (And.intro rfl ?_); conv => whnf) | (refine And.intro ⟨(by first | omega | (simp; omega)), (by first | omega | (simp; omega))⟩ ?_; conv => whnf) | (refine Exists.intro _ (And.intro rfl (And.intro (by first | omega | (simp; omega)) (And.intro ⟨rfl, rfl, rfl, rfl, rfl⟩ ?_))); conv => whnf) | (refine And.intro ⟨rfl, rfl⟩ (And.intro (by first | omega | (simp; omega)) ?_); conv => whnf) | (refine Exists.intro _ (And.intro rfl ?_); conv => whnf) | (refine And.intro (fun _ => ?_) (fun h => absurd h (by decide)); conv => whnf) | (refine And.intro (fun h => absurd h (by decide)) (fun _ => ?_); conv => whnf) | (refine .quiet (by kernel_rfl) ?_; conv => whnf))
      refine ⟨fun hx => ?_, fun hx => ?_⟩
      · conv => whnf
        refine .raw _ _ rfl (fun h => by cases h) (callio_sem (fail_ok s b) [0] _ rfl rfl ⟨rfl, trivial⟩ (by repeat (first | exact .nil | (apply BorL.cons; first | exact .map _ _ rfl | exact .ptr _ _ _ rfl | exact .own _ _ rfl | exact .fnp _ _ _ _ rfl | (apply BorIO.lend; first | exact lS rfl | exact lR rfl | exact lM rfl rfl | exact lL rfl | exact lX rfl | exact lN | exact lNl | exact lSm rfl | exact lIm rfl | exact lP rfl | exact lQ rfl | exact lB rfl rfl rfl)))) rfl (by first | exact .inl rfl | exact .inr (fun b rs h => by obtain ⟨rfl, rfl⟩ := h; exact ⟨by repeat (first | exact flats_nil | refine flats_cons (by first | exact flat_val _ rfl | exact flat_row (fun _ => rfl) | exact flat_lst (fun _ => rfl)) ?_), by repeat (first | exact flats0 | refine flats1 (by first | exact flatB_row (fun _ => rfl) | exact flatB_lst (fun _ => rfl) | exact flatB_smap (fun _ => rfl) | exact flatB_imap (fun _ => rfl) | exact flatB_cells rfl) ?_)⟩))) ?_
        rintro r ⟨b', rs, ⟨rfl, rfl⟩, rfl⟩
        refine ⟨tn_ge _ _, ?_⟩
        conv => whnf
        exact ⟨rfl, rfl⟩
      · simp at hx
    · rw [hr] at hat hR
      rw [hR]
      have hit := itoa_c (Lib.atoiSat t) (Lib.atoiSat_bounds t).1 (Lib.atoiSat_bounds t).2
      refine .one _ _ _ (fun _ => hat) (by repeat (first | exact .nil | (apply BorL.cons; first | exact lS rfl | exact lR rfl | exact lM rfl rfl | exact lL rfl | exact lX rfl | exact lN | exact lNl | exact lSm rfl | exact lIm rfl | exact lP rfl | exact lQ rfl | exact lB rfl rfl rfl))) (by first | exact .inl rfl | exact .inr (by repeat (first | exact flats_nil | refine flats_cons (by first | exact flat_val _ rfl | exact flat_row (fun _ => rfl) | exact flat_lst (fun _ => rfl)) ?_))) (by first | exact .inl rfl | exact .inr rfl) ?_
      conv => whnf
      refine .quiet (by kernel_rfl) ?_
      conv => whnf
      repeat (first | (refine And.intro ⟨by omega, by omega⟩ ?_; conv => whnf) | (refine And.intro (by omega) (And.intro rfl ?_); conv => whnf) | (refine And.intro rfl ?_; conv => whnf) | (refine And.intro (fun _ => ⟨by omega, by omega⟩) ?_; conv => whnf) | (refine And.intro (fun _ => by omega) (And.intro rfl ?_); conv => whnf) | (refine And.intro ⟨(by first | omega | (simp; omega)), (by first | omega | (simp; omega))⟩ ?_; conv => whnf) | (refine Exists.intro _ (And.intro rfl (And.intro (by first | omega | (simp; omega)) (And.intro ⟨rfl, rfl, rfl, rfl, rfl⟩ ?_))); conv => whnf) | (refine And.intro ⟨rfl, rfl⟩ (And.intro (by first | omega | (simp; omega)) ?_); conv => whnf) | (refine Exists.intro _ (And.intro rfl ?_); conv => whnf) | (refine And.intro (fun _ => ?_) (fun h => absurd h (by decide)); conv => whnf) | (refine And.intro (fun h => absurd h (by decide)) (fun _ => ?_); conv => whnf) | (refine .quiet (by kernel_rfl) ?_; conv => whnf))
      refine .mk _ _ _ _ (fun _ => hit) (by repeat (first | exact .nil | (apply BorL.cons; first | exact lS rfl | exact lR rfl | exact lM rfl rfl | exact lL rfl | exact lX rfl | exact lN | exact lNl | exact lSm rfl | exact lIm rfl | exact lP rfl | exact lQ rfl | exact lB rfl rfl rfl))) rfl ?_
      conv => whnf
      repeat (first | (refine And.intro ⟨by omega, by omega⟩ ?_; conv => whnf) | (refine And.intro (by omega) (And.intro rfl ?_); conv => whnf) | (refine And.intro rfl ?_; conv => whnf) | (refine And.intro (fun _ => ⟨by omega, by omega⟩) ?_; conv => whnf) | (refine And.intro (fun _ => by omega) (And.intro rfl ?_); conv => whnf) | (refine And.intro ⟨(by first | omega | (simp; omega)), (by first | omega | (simp; omega))⟩ ?_; conv => whnf) | (refine Exists.intro _ (And.intro rfl (And.intro (by first | omega | (simp; omega)) (And.intro ⟨rfl, rfl, rfl, rfl, rfl⟩ ?_))); conv => whnf) | (refine And.intro ⟨rfl, rfl⟩ (And.intro (by first | omega | (simp; omega)) ?_); conv => whnf) | (refine Exists.intro _ (And.intro rfl ?_); conv => whnf) | (refine And.intro (fun _ => ?_) (fun h => absurd h (by decide)); conv => whnf) | (refine And.intro (fun h => absurd h (by decide)) (fun _ => ?_); conv => whnf) | (refine .quiet (by kernel_rfl) ?_; conv => whnf))
      refine ⟨fun hx => ?_, fun hx => ?_⟩
      · conv => whnf
        refine .raw _ _ rfl (fun h => by cases h) (callio_sem (fail_ok s b) [0] _ rfl rfl ⟨rfl, trivial⟩ (by repeat (first | exact .nil | (apply BorL.cons; first | exact .map _ _ rfl | exact .ptr _ _ _ rfl | exact .own _ _ rfl | exact .fnp _ _ _ _ rfl | (apply BorIO.lend; first | exact lS rfl | exact lR rfl | exact lM rfl rfl | exact lL rfl | exact lX rfl | exact lN | exact lNl | exact lSm rfl | exact lIm rfl | exact lP rfl | exact lQ rfl | exact lB rfl rfl rfl)))) rfl (by first | exact .inl rfl | exact .inr (fun b rs h => by obtain ⟨rfl, rfl⟩ := h; exact ⟨by repeat (first | exact flats_nil | refine flats_cons (by first | exact flat_val _ rfl | exact flat_row (fun _ => rfl) | exact flat_lst (fun _ => rfl)) ?_), by repeat (first | exact flats0 | refine flats1 (by first | exact flatB_row (fun _ => rfl) | exact flatB_lst (fun _ => rfl) | exact flatB_smap (fun _ => rfl) | exact flatB_imap (fun _ => rfl) | exact flatB_cells rfl) ?_)⟩))) ?_
        rintro r ⟨b', rs, ⟨rfl, rfl⟩, rfl⟩
        refine ⟨tn_ge _ _, ?_⟩
        conv => whnf
        exact ⟨rfl, rfl⟩
      · simp at hx

end Go.Proofs.YthepodkgphnibaaDoor

namespace Go.Proofs.YthepodkgphnibaaDoor
open Go.Own
set_option maxHeartbeats 1000000
set_option maxRecDepth 100000

abbrev rdr (s : List UInt8) (b : Bool) : AB := .cells 54 [.str s, .bool b]
/-- A reader's number, in two ways. -/
theorem number_some {c least : Int} {s r : List UInt8} {n : Int} {b : Bool} (hs : s.length ≤ 9223372036854775000) (h : numR c least s = some (n, r)) : AIO Tryd.prog 48 [.ptr 0 0, .int .u8 c, .int .i64 least] [rdr s b] (fun bs rs => bs = [rdr r b] ∧ rs = [.val (.int .i64 n)]) := by
  have := number_ok c least s b hs
  rw [h] at this
  exact this
theorem number_none {c least : Int} {s : List UInt8} {b : Bool} (hs : s.length ≤ 9223372036854775000) (h : numR c least s = none) : AIO Tryd.prog 48 [.ptr 0 0, .int .u8 c, .int .i64 least] [rdr s b] (fun bs rs => bs = [rdr [] true] ∧ rs = [.val (.int .i64 0)]) := by
  have := number_ok c least s b hs
  rw [h] at this
  exact this
theorem close_some {e s r : List UInt8} {b : Bool} (h : closeR e s = some r) : AIO Tryd.prog 50 [.ptr 0 0, .str e] [rdr s b] (fun bs rs => bs = [rdr r b] ∧ rs = []) := by
  have := close_ok e s b
  rw [h] at this
  exact this
theorem close_none {e s : List UInt8} {b : Bool} (h : closeR e s = none) : AIO Tryd.prog 50 [.ptr 0 0, .str e] [rdr s b] (fun bs rs => bs = [rdr [] true] ∧ rs = []) := by
  have := close_ok e s b
  rw [h] at this
  exact this

/-- What a call of a reader gives: the value, and what is left of it. -/
structure RS where
  rest : List UInt8
  bad : Bool
def numQ (c least : Int) (q : RS) : Int × RS :=
  match numR c least q.rest with
  | some (n, r) => (n, ⟨r, q.bad⟩)
  | none => (0, ⟨[], true⟩)
abbrev ro (q : RS) : AB := .cells 54 [.str q.rest, .bool q.bad]

theorem rnum_ok (q : RS) (hs : q.rest.length ≤ 9223372036854775000) : AIO Tryd.prog 23 [.ptr 0 0] [ro q] (fun bs rs => bs = [ro (numQ 59 0 q).2] ∧ rs = [.val (.int .i64 (numQ 59 0 q).1)]) := by
  unfold numQ
  cases h : numR 59 0 q.rest with
  | some x =>
    have hn := number_some (b := q.bad) (r := x.2) (n := x.1) hs h
    refine aio_of (C := cxP 1 5 [0, 2]) (cxPOk _ _ _) Tryd.func23 rfl (by decide) rfl (by exact Nat.le_of_ble_eq_true rfl) (by decide) rfl rfl ?_
    conv => whnf
    refine .raw _ _ rfl (fun h => by cases h) (callio_sem (hn) [0] _ rfl rfl ⟨rfl, trivial⟩ (by repeat (first | exact .nil | (apply BorL.cons; first | exact .map _ _ rfl | exact .ptr _ _ _ rfl | exact .own _ _ rfl | (apply BorIO.lend; first | exact lS rfl | exact lR rfl | exact lM rfl rfl | exact lL rfl | exact lX rfl | exact lN | exact lNl | exact lSm rfl | exact lIm rfl | exact lP rfl | exact lQ rfl | exact lB rfl rfl rfl)))) rfl (by first | exact .inl rfl | exact .inr (fun b rs h => by obtain ⟨rfl, rfl⟩ := h; exact ⟨by repeat (first | exact flats_nil | refine flats_cons (by first | exact flat_val _ rfl | exact flat_row (fun _ => rfl) | exact flat_lst (fun _ => rfl)) ?_), by repeat (first | exact flats0 | refine flats1 (by first | exact flatB_row (fun _ => rfl) | exact flatB_lst (fun _ => rfl) | exact flatB_smap (fun _ => rfl) | exact flatB_imap (fun _ => rfl) | exact flatB_cells rfl) ?_)⟩))) ?_
    rintro r ⟨b', rs, ⟨rfl, rfl⟩, rfl⟩
    refine ⟨tn_ge _ _, ?_⟩
    conv => whnf
    exact ⟨rfl, rfl⟩
  | none =>
    have hn := number_none (b := q.bad) hs h
    refine aio_of (C := cxP 1 5 [0, 2]) (cxPOk _ _ _) Tryd.func23 rfl (by decide) rfl (by exact Nat.le_of_ble_eq_true rfl) (by decide) rfl rfl ?_
    conv => whnf
    refine .raw _ _ rfl (fun h => by cases h) (callio_sem (hn) [0] _ rfl rfl ⟨rfl, trivial⟩ (by repeat (first | exact .nil | (apply BorL.cons; first | exact .map _ _ rfl | exact .ptr _ _ _ rfl | exact .own _ _ rfl | (apply BorIO.lend; first | exact lS rfl | exact lR rfl | exact lM rfl rfl | exact lL rfl | exact lX rfl | exact lN | exact lNl | exact lSm rfl | exact lIm rfl | exact lP rfl | exact lQ rfl | exact lB rfl rfl rfl)))) rfl (by first | exact .inl rfl | exact .inr (fun b rs h => by obtain ⟨rfl, rfl⟩ := h; exact ⟨by repeat (first | exact flats_nil | refine flats_cons (by first | exact flat_val _ rfl | exact flat_row (fun _ => rfl) | exact flat_lst (fun _ => rfl)) ?_), by repeat (first | exact flats0 | refine flats1 (by first | exact flatB_row (fun _ => rfl) | exact flatB_lst (fun _ => rfl) | exact flatB_smap (fun _ => rfl) | exact flatB_imap (fun _ => rfl) | exact flatB_cells rfl) ?_)⟩))) ?_
    rintro r ⟨b', rs, ⟨rfl, rfl⟩, rfl⟩
    refine ⟨tn_ge _ _, ?_⟩
    conv => whnf
    exact ⟨rfl, rfl⟩
theorem rint_ok (q : RS) (hs : q.rest.length ≤ 9223372036854775000) : AIO Tryd.prog 24 [.ptr 0 0] [ro q] (fun bs rs => bs = [ro (numQ 59 (-9223372036854775808) q).2] ∧ rs = [.val (.int .i64 (numQ 59 (-9223372036854775808) q).1)]) := by
  unfold numQ
  cases h : numR 59 (-9223372036854775808) q.rest with
  | some x =>
    have hn := number_some (b := q.bad) (r := x.2) (n := x.1) hs h
    refine aio_of (C := cxP 1 5 [0, 2]) (cxPOk _ _ _) Tryd.func24 rfl (by decide) rfl (by exact Nat.le_of_ble_eq_true rfl) (by decide) rfl rfl ?_
    conv => whnf
    refine .raw _ _ rfl (fun h => by cases h) (callio_sem (hn) [0] _ rfl rfl ⟨rfl, trivial⟩ (by repeat (first | exact .nil | (apply BorL.cons; first | exact .map _ _ rfl | exact .ptr _ _ _ rfl | exact .own _ _ rfl | (apply BorIO.lend; first | exact lS rfl | exact lR rfl | exact lM rfl rfl | exact lL rfl | exact lX rfl | exact lN | exact lNl | exact lSm rfl | exact lIm rfl | exact lP rfl | exact lQ rfl | exact lB rfl rfl rfl)))) rfl (by first | exact .inl rfl | exact .inr (fun b rs h => by obtain ⟨rfl, rfl⟩ := h; exact ⟨by repeat (first | exact flats_nil | refine flats_cons (by first | exact flat_val _ rfl | exact flat_row (fun _ => rfl) | exact flat_lst (fun _ => rfl)) ?_), by repeat (first | exact flats0 | refine flats1 (by first | exact flatB_row (fun _ => rfl) | exact flatB_lst (fun _ => rfl) | exact flatB_smap (fun _ => rfl) | exact flatB_imap (fun _ => rfl) | exact flatB_cells rfl) ?_)⟩))) ?_
    rintro r ⟨b', rs, ⟨rfl, rfl⟩, rfl⟩
    refine ⟨tn_ge _ _, ?_⟩
    conv => whnf
    exact ⟨rfl, rfl⟩
  | none =>
    have hn := number_none (b := q.bad) hs h
    refine aio_of (C := cxP 1 5 [0, 2]) (cxPOk _ _ _) Tryd.func24 rfl (by decide) rfl (by exact Nat.le_of_ble_eq_true rfl) (by decide) rfl rfl ?_
    conv => whnf
    refine .raw _ _ rfl (fun h => by cases h) (callio_sem (hn) [0] _ rfl rfl ⟨rfl, trivial⟩ (by repeat (first | exact .nil | (apply BorL.cons; first | exact .map _ _ rfl | exact .ptr _ _ _ rfl | exact .own _ _ rfl | (apply BorIO.lend; first | exact lS rfl | exact lR rfl | exact lM rfl rfl | exact lL rfl | exact lX rfl | exact lN | exact lNl | exact lSm rfl | exact lIm rfl | exact lP rfl | exact lQ rfl | exact lB rfl rfl rfl)))) rfl (by first | exact .inl rfl | exact .inr (fun b rs h => by obtain ⟨rfl, rfl⟩ := h; exact ⟨by repeat (first | exact flats_nil | refine flats_cons (by first | exact flat_val _ rfl | exact flat_row (fun _ => rfl) | exact flat_lst (fun _ => rfl)) ?_), by repeat (first | exact flats0 | refine flats1 (by first | exact flatB_row (fun _ => rfl) | exact flatB_lst (fun _ => rfl) | exact flatB_smap (fun _ => rfl) | exact flatB_imap (fun _ => rfl) | exact flatB_cells rfl) ?_)⟩))) ?_
    rintro r ⟨b', rs, ⟨rfl, rfl⟩, rfl⟩
    refine ⟨tn_ge _ _, ?_⟩
    conv => whnf
    exact ⟨rfl, rfl⟩

end Go.Proofs.YthepodkgphnibaaDoor

namespace Go.Proofs.YthepodkgphnibaaDoor
open Go.Own
set_option maxHeartbeats 1000000
set_option maxRecDepth 100000

theorem numR_some {c least : Int} {s r : List UInt8} {n : Int} (h : numR c least s = some (n, r)) : least ≤ n ∧ r.length ≤ s.length := by
  unfold numR at h
  simp only at h
  split at h
  · cases h
  · split at h
    · split at h
      · rename_i hk
        cases h
        exact ⟨hk.2, by rw [List.length_drop]; omega⟩
      · cases h
    · cases h
def textQ (q : RS) : List UInt8 × RS :=
  let x := numQ 58 0 q
  if (x.2.rest.length : Int) < x.1 then ([], ⟨[], true⟩)
  else match closeR [44] (x.2.rest.drop x.1.toNat) with
    | some r => (if x.2.bad = true then [] else x.2.rest.take x.1.toNat, ⟨r, x.2.bad⟩)
    | none => ([], ⟨[], true⟩)

theorem num48 (c least : Int) (q : RS) (hs : q.rest.length ≤ 9223372036854775000) : AIO Tryd.prog 48 [.ptr 0 0, .int .u8 c, .int .i64 least] [ro q] (fun bs rs => bs = [ro (numQ c least q).2] ∧ rs = [.val (.int .i64 (numQ c least q).1)]) := by
  unfold numQ
  cases h : numR c least q.rest with
  | some x => exact number_some (b := q.bad) (r := x.2) (n := x.1) hs h
  | none => exact number_none (b := q.bad) hs h
theorem numQ_le (c least : Int) (q : RS) (hl : least ≤ 0) : least ≤ (numQ c least q).1 ∧ (numQ c least q).2.rest.length ≤ q.rest.length := by
  unfold numQ
  cases h : numR c least q.rest with
  | some x => exact numR_some (r := x.2) (n := x.1) h
  | none => exact ⟨hl, Nat.zero_le _⟩

theorem rtext_ok (q : RS) (hs : q.rest.length ≤ 9223372036854775000) : AIO Tryd.prog 25 [.ptr 0 0] [ro q] (fun bs rs => bs = [ro (textQ q).2] ∧ rs = [.val (.str (textQ q).1)]) := by
  have hn := num48 58 0 q hs
  obtain ⟨h0, h1⟩ := numQ_le 58 0 q (Int.le_refl _)
  unfold textQ
  simp only
  generalize numQ 58 0 q = x at *
  obtain ⟨n, r, b⟩ := x
  replace hn : AIO Tryd.prog 48 [.ptr 0 0, .int .u8 58, .int .i64 0] [ro q] (fun bs rs => bs = [.cells 54 [.str r, .bool b]] ∧ rs = [.val (.int .i64 n)]) := hn
  simp only at h0 h1 ⊢
  have hen : (n.toNat : Int) = n := Int.toNat_of_nonneg h0
  by_cases hc : (r.length : Int) < n
  · rw [if_pos hc]
    refine aio_of (C := cxP 1 38 [0, 2, 3, 4, 13, 36]) (cxPOk _ _ _) Tryd.func25 rfl (by decide) rfl (by exact Nat.le_of_ble_eq_true rfl) (by decide) rfl rfl ?_
    conv => whnf
    refine .raw _ _ rfl (fun h => by cases h) (callio_sem (hn) [0] _ rfl rfl ⟨rfl, trivial⟩ (by repeat (first | exact .nil | (apply BorL.cons; first | exact .map _ _ rfl | exact .ptr _ _ _ rfl | exact .own _ _ rfl | (apply BorIO.lend; first | exact lS rfl | exact lR rfl | exact lM rfl rfl | exact lL rfl | exact lX rfl | exact lN | exact lNl | exact lSm rfl | exact lIm rfl | exact lP rfl | exact lQ rfl | exact lB rfl rfl rfl)))) rfl (by first | exact .inl rfl | exact .inr (fun b rs h => by obtain ⟨rfl, rfl⟩ := h; exact ⟨by repeat (first | exact flats_nil | refine flats_cons (by first | exact flat_val _ rfl | exact flat_row (fun _ => rfl) | exact flat_lst (fun _ => rfl)) ?_), by repeat (first | exact flats0 | refine flats1 (by first | exact flatB_row (fun _ => rfl) | exact flatB_lst (fun _ => rfl) | exact flatB_smap (fun _ => rfl) | exact flatB_imap (fun _ => rfl) | exact flatB_cells rfl) ?_)⟩))) ?_
    rintro w ⟨b', rs, ⟨rfl, rfl⟩, rfl⟩
    refine ⟨tn_ge _ _, ?_⟩
    conv => whnf
    repeat (first | (refine And.intro ⟨by omega, by omega⟩ ?_; conv => whnf) | (refine And.intro (by omega) (And.intro rfl ?_); conv => whnf) | (refine And.intro rfl ?_; conv => whnf) | (refine And.intro (fun _ => ⟨by omega, by omega⟩) ?_; conv => whnf) | (refine And.intro (fun _ => by omega) (And.intro rfl ?_); conv => whnf) | (refine And.intro ⟨(by first | omega | (simp; omega)), (by first | omega | (simp; omega))⟩ ?_; conv => whnf) | (refine Exists.intro _ (And.intro rfl (And.intro (by first | omega | (simp; omega)) (And.intro ⟨rfl, rfl, rfl, rfl, rfl⟩ ?_))); conv => whnf) | (refine And.intro ⟨rfl, rfl⟩ (And.intro (by first | omega | (simp; omega)) ?_); conv => whnf) | (refine Exists.intro _ (And.intro rfl ?_); conv => whnf) | (refine And.intro (fun _ => ?_) (fun h => absurd h (by decide)); conv => whnf) | (refine And.intro (fun h => absurd h (by decide)) (fun _ => ?_); conv => whnf) | (refine .quiet (by kernel_rfl) ?_; conv => whnf))
    refine ⟨fun hx => ?_, fun hx => ?_⟩
    · conv => whnf
      refine .raw _ _ rfl (fun h => by cases h) (callio_sem (fail_ok r b) [0] _ rfl rfl ⟨rfl, trivial⟩ (by repeat (first | exact .nil | (apply BorL.cons; first | exact .map _ _ rfl | exact .ptr _ _ _ rfl | exact .own _ _ rfl | (apply BorIO.lend; first | exact lS rfl | exact lR rfl | exact lM rfl rfl | exact lL rfl | exact lX rfl | exact lN | exact lNl | exact lSm rfl | exact lIm rfl | exact lP rfl | exact lQ rfl | exact lB rfl rfl rfl)))) rfl (by first | exact .inl rfl | exact .inr (fun b rs h => by obtain ⟨rfl, rfl⟩ := h; exact ⟨by repeat (first | exact flats_nil | refine flats_cons (by first | exact flat_val _ rfl | exact flat_row (fun _ => rfl) | exact flat_lst (fun _ => rfl)) ?_), by repeat (first | exact flats0 | refine flats1 (by first | exact flatB_row (fun _ => rfl) | exact flatB_lst (fun _ => rfl) | exact flatB_smap (fun _ => rfl) | exact flatB_imap (fun _ => rfl) | exact flatB_cells rfl) ?_)⟩))) ?_
      rintro w ⟨b', rs, ⟨rfl, rfl⟩, rfl⟩
      refine ⟨tn_ge _ _, ?_⟩
      conv => whnf
      exact ⟨rfl, rfl⟩
    · have := of_decide_eq_false hx
      exact (this hc).elim
  · rw [if_neg hc]
    cases hcl : closeR [44] (r.drop n.toNat) with
    | some r' =>
      have hk := close_some (b := b) hcl
      refine aio_of (C := cxP 1 38 [0, 2, 3, 4, 13, 36]) (cxPOk _ _ _) Tryd.func25 rfl (by decide) rfl (by exact Nat.le_of_ble_eq_true rfl) (by decide) rfl rfl ?_
      conv => whnf
      refine .raw _ _ rfl (fun h => by cases h) (callio_sem (hn) [0] _ rfl rfl ⟨rfl, trivial⟩ (by repeat (first | exact .nil | (apply BorL.cons; first | exact .map _ _ rfl | exact .ptr _ _ _ rfl | exact .own _ _ rfl | (apply BorIO.lend; first | exact lS rfl | exact lR rfl | exact lM rfl rfl | exact lL rfl | exact lX rfl | exact lN | exact lNl | exact lSm rfl | exact lIm rfl | exact lP rfl | exact lQ rfl | exact lB rfl rfl rfl)))) rfl (by first | exact .inl rfl | exact .inr (fun b rs h => by obtain ⟨rfl, rfl⟩ := h; exact ⟨by repeat (first | exact flats_nil | refine flats_cons (by first | exact flat_val _ rfl | exact flat_row (fun _ => rfl) | exact flat_lst (fun _ => rfl)) ?_), by repeat (first | exact flats0 | refine flats1 (by first | exact flatB_row (fun _ => rfl) | exact flatB_lst (fun _ => rfl) | exact flatB_smap (fun _ => rfl) | exact flatB_imap (fun _ => rfl) | exact flatB_cells rfl) ?_)⟩))) ?_
      rintro w ⟨b', rs, ⟨rfl, rfl⟩, rfl⟩
      refine ⟨tn_ge _ _, ?_⟩
      conv => whnf
      repeat (first | (refine And.intro ⟨by omega, by omega⟩ ?_; conv => whnf) | (refine And.intro (by omega) (And.intro rfl ?_); conv => whnf) | (refine And.intro rfl ?_; conv => whnf) | (refine And.intro (fun _ => ⟨by omega, by omega⟩) ?_; conv => whnf) | (refine And.intro (fun _ => by omega) (And.intro rfl ?_); conv => whnf) | (refine And.intro ⟨(by first | omega | (simp; omega)), (by first | omega | (simp; omega))⟩ ?_; conv => whnf) | (refine Exists.intro _ (And.intro rfl (And.intro (by first | omega | (simp; omega)) (And.intro ⟨rfl, rfl, rfl, rfl, rfl⟩ ?_))); conv => whnf) | (refine And.intro ⟨rfl, rfl⟩ (And.intro (by first | omega | (simp; omega)) ?_); conv => whnf) | (refine Exists.intro _ (And.intro rfl ?_); conv => whnf) | (refine And.intro (fun _ => ?_) (fun h => absurd h (by decide)); conv => whnf) | (refine And.intro (fun h => absurd h (by decide)) (fun _ => ?_); conv => whnf) | (refine .quiet (by kernel_rfl) ?_; conv => whnf))
      refine ⟨fun hx => ?_, fun hx => ?_⟩
      · exact (hc (of_decide_eq_true hx)).elim
      · conv => whnf
        refine And.intro ⟨by omega, by omega, by omega⟩ ?_
        conv => whnf
        refine And.intro ⟨by omega, by omega, by omega⟩ ?_
        conv => whnf
        refine .raw _ _ rfl (fun h => by cases h) (callio_sem (hk) [0] _ rfl rfl ⟨rfl, trivial⟩ (by repeat (first | exact .nil | (apply BorL.cons; first | exact .map _ _ rfl | exact .ptr _ _ _ rfl | exact .own _ _ rfl | (apply BorIO.lend; first | exact lS rfl | exact lR rfl | exact lM rfl rfl | exact lL rfl | exact lX rfl | exact lN | exact lNl | exact lSm rfl | exact lIm rfl | exact lP rfl | exact lQ rfl | exact lB rfl rfl rfl)))) rfl (by first | exact .inl rfl | exact .inr (fun b rs h => by obtain ⟨rfl, rfl⟩ := h; exact ⟨by repeat (first | exact flats_nil | refine flats_cons (by first | exact flat_val _ rfl | exact flat_row (fun _ => rfl) | exact flat_lst (fun _ => rfl)) ?_), by repeat (first | exact flats0 | refine flats1 (by first | exact flatB_row (fun _ => rfl) | exact flatB_lst (fun _ => rfl) | exact flatB_smap (fun _ => rfl) | exact flatB_imap (fun _ => rfl) | exact flatB_cells rfl) ?_)⟩))) ?_
        rintro w ⟨b', rs, ⟨rfl, rfl⟩, rfl⟩
        refine ⟨tn_ge _ _, ?_⟩
        conv => whnf
        refine ⟨fun hb => ?_, fun hb => ?_⟩
        · conv => whnf
          refine ⟨rfl, ?_⟩
          rw [if_pos hb]
          rfl
        · conv => whnf
          refine ⟨rfl, ?_⟩
          rw [if_neg (by rw [hb]; simp)]
          rfl
    | none =>
      have hk := close_none (b := b) hcl
      refine aio_of (C := cxP 1 38 [0, 2, 3, 4, 13, 36]) (cxPOk _ _ _) Tryd.func25 rfl (by decide) rfl (by exact Nat.le_of_ble_eq_true rfl) (by decide) rfl rfl ?_
      conv => whnf
      refine .raw _ _ rfl (fun h => by cases h) (callio_sem (hn) [0] _ rfl rfl ⟨rfl, trivial⟩ (by repeat (first | exact .nil | (apply BorL.cons; first | exact .map _ _ rfl | exact .ptr _ _ _ rfl | exact .own _ _ rfl | (apply BorIO.lend; first | exact lS rfl | exact lR rfl | exact lM rfl rfl | exact lL rfl | exact lX rfl | exact lN | exact lNl | exact lSm rfl | exact lIm rfl | exact lP rfl | exact lQ rfl | exact lB rfl rfl rfl)))) rfl (by first | exact .inl rfl | exact .inr (fun b rs h => by obtain ⟨rfl, rfl⟩ := h; exact ⟨by repeat (first | exact flats_nil | refine flats_cons (by first | exact flat_val _ rfl | exact flat_row (fun _ => rfl) | exact flat_lst (fun _ => rfl)) ?_), by repeat (first | exact flats0 | refine flats1 (by first | exact flatB_row (fun _ => rfl) | exact flatB_lst (fun _ => rfl) | exact flatB_smap (fun _ => rfl) | exact flatB_imap (fun _ => rfl) | exact flatB_cells rfl) ?_)⟩))) ?_
      rintro w ⟨b', rs, ⟨rfl, rfl⟩, rfl⟩
      refine ⟨tn_ge _ _, ?_⟩
      conv => whnf
      repeat (first | (refine And.intro ⟨by omega, by omega⟩ ?_; conv => whnf) | (refine And.intro (by omega) (And.intro rfl ?_); conv => whnf) | (refine And.intro rfl ?_; conv => whnf) | (refine And.intro (fun _ => ⟨by omega, by omega⟩) ?_; conv => whnf) | (refine And.intro (fun _ => by omega) (And.intro rfl ?_); conv => whnf) | (refine And.intro ⟨(by first | omega | (simp; omega)), (by first | omega | (simp; omega))⟩ ?_; conv => whnf) | (refine Exists.intro _ (And.intro rfl (And.intro (by first | omega | (simp; omega)) (And.intro ⟨rfl, rfl, rfl, rfl, rfl⟩ ?_))); conv => whnf) | (refine And.intro ⟨rfl, rfl⟩ (And.intro (by first | omega | (simp; omega)) ?_); conv => whnf) | (refine Exists.intro _ (And.intro rfl ?_); conv => whnf) | (refine And.intro (fun _ => ?_) (fun h => absurd h (by decide)); conv => whnf) | (refine And.intro (fun h => absurd h (by decide)) (fun _ => ?_); conv => whnf) | (refine .quiet (by kernel_rfl) ?_; conv => whnf))
      refine ⟨fun hx => ?_, fun hx => ?_⟩
      · exact (hc (of_decide_eq_true hx)).elim
      · conv => whnf
        refine And.intro ⟨by omega, by omega, by omega⟩ ?_
        conv => whnf
        refine And.intro ⟨by omega, by omega, by omega⟩ ?_
        conv => whnf
        refine .raw _ _ rfl (fun h => by cases h) (callio_sem (hk) [0] _ rfl rfl ⟨rfl, trivial⟩ (by repeat (first | exact .nil | (apply BorL.cons; first | exact .map _ _ rfl | exact .ptr _ _ _ rfl | exact .own _ _ rfl | (apply BorIO.lend; first | exact lS rfl | exact lR rfl | exact lM rfl rfl | exact lL rfl | exact lX rfl | exact lN | exact lNl | exact lSm rfl | exact lIm rfl | exact lP rfl | exact lQ rfl | exact lB rfl rfl rfl)))) rfl (by first | exact .inl rfl | exact .inr (fun b rs h => by obtain ⟨rfl, rfl⟩ := h; exact ⟨by repeat (first | exact flats_nil | refine flats_cons (by first | exact flat_val _ rfl | exact flat_row (fun _ => rfl) | exact flat_lst (fun _ => rfl)) ?_), by repeat (first | exact flats0 | refine flats1 (by first | exact flatB_row (fun _ => rfl) | exact flatB_lst (fun _ => rfl) | exact flatB_smap (fun _ => rfl) | exact flatB_imap (fun _ => rfl) | exact flatB_cells rfl) ?_)⟩))) ?_
        rintro w ⟨b', rs, ⟨rfl, rfl⟩, rfl⟩
        refine ⟨tn_ge _ _, ?_⟩
        conv => whnf
        refine ⟨fun hb => ?_, fun hb => ?_⟩
        · conv => whnf
          exact ⟨rfl, rfl⟩
        · cases hb

end Go.Proofs.YthepodkgphnibaaDoor

namespace Go.Proofs.YthepodkgphnibaaDoor
open Go.Own
set_option maxHeartbeats 1000000
set_option maxRecDepth 100000

theorem rleft_ok (q : RS) : AIO Tryd.prog 28 [.ptr 0 0] [ro q] (fun bs rs => bs = [ro q] ∧ rs = [.val (.int .i64 q.rest.length)]) := left_ok q.rest q.bad
theorem rrest_ok (q : RS) : AIO Tryd.prog 42 [.ptr 0 0] [ro q] (fun bs rs => bs = [ro ⟨[], q.bad⟩] ∧ rs = [.val (.str q.rest)]) := by
  refine aio_of (C := cxP 1 12 [0, 2, 3]) (cxPOk _ _ _) Tryd.func42 rfl (by decide) rfl (by exact Nat.le_of_ble_eq_true rfl) (by decide) rfl rfl ?_
  conv => whnf
  exact ⟨rfl, rfl⟩
theorem rdone_ok (q : RS) : AIO Tryd.prog 29 [.ptr 0 0] [ro q] (fun bs rs => bs = [ro q] ∧ rs = [.val (.bool (!q.bad && decide (q.rest = [])))]) := by
  refine aio_of (C := cxP 1 15 [0, 2]) (cxPOk _ _ _) Tryd.func29 rfl (by decide) rfl (by exact Nat.le_of_ble_eq_true rfl) (by decide) rfl rfl ?_
  conv => whnf
  exact ⟨rfl, rfl⟩

def kindZ (n : Int) : Int := if Int.tmod n 5 < 0 then Int.tmod n 5 + 5 else Int.tmod n 5
def numberZ (n : Int) : Int := if n < 0 then -(n + 1) else n
theorem number53 (n : Int) (hn : in64 n) : APureV Tryd.prog 53 [.int .i64 n] (.int .i64 (numberZ n)) := by
  obtain ⟨h0, h1⟩ := hn
  unfold numberZ
  refine apure_of (C := cx 9 [0, 2, 4]) (cxOk _ _) Tryd.func53 rfl (by decide) rfl (by exact Nat.le_of_ble_eq_true rfl) (by decide) ?_
  conv => whnf
  repeat (first | (refine And.intro ⟨by omega, by omega⟩ ?_; conv => whnf) | (refine And.intro (by omega) (And.intro rfl ?_); conv => whnf) | (refine And.intro rfl ?_; conv => whnf) | (refine And.intro (fun _ => ⟨by omega, by omega⟩) ?_; conv => whnf) | (refine And.intro (fun _ => by omega) (And.intro rfl ?_); conv => whnf) | (refine And.intro ⟨(by first | omega | (simp; omega)), (by first | omega | (simp; omega))⟩ ?_; conv => whnf) | (refine Exists.intro _ (And.intro rfl (And.intro (by first | omega | (simp; omega)) (And.intro ⟨rfl, rfl, rfl, rfl, rfl⟩ ?_))); conv => whnf) | (refine And.intro ⟨rfl, rfl⟩ (And.intro (by first | omega | (simp; omega)) ?_); conv => whnf) | (refine Exists.intro _ (And.intro rfl ?_); conv => whnf) | (refine And.intro (fun _ => ?_) (fun h => absurd h (by decide)); conv => whnf) | (refine And.intro (fun h => absurd h (by decide)) (fun _ => ?_); conv => whnf) | (refine .quiet (by kernel_rfl) ?_; conv => whnf))
  refine ⟨fun hc => ?_, fun hc => ?_⟩
  · rw [if_pos (of_decide_eq_true hc)]
    have := of_decide_eq_true hc
    conv => whnf
    repeat (first | (refine And.intro ⟨by omega, by omega⟩ ?_; conv => whnf) | (refine And.intro (by omega) (And.intro rfl ?_); conv => whnf) | (refine And.intro rfl ?_; conv => whnf) | (refine And.intro (fun _ => ⟨by omega, by omega⟩) ?_; conv => whnf) | (refine And.intro (fun _ => by omega) (And.intro rfl ?_); conv => whnf) | (refine And.intro ⟨(by first | omega | (simp; omega)), (by first | omega | (simp; omega))⟩ ?_; conv => whnf) | (refine Exists.intro _ (And.intro rfl (And.intro (by first | omega | (simp; omega)) (And.intro ⟨rfl, rfl, rfl, rfl, rfl⟩ ?_))); conv => whnf) | (refine And.intro ⟨rfl, rfl⟩ (And.intro (by first | omega | (simp; omega)) ?_); conv => whnf) | (refine Exists.intro _ (And.intro rfl ?_); conv => whnf) | (refine And.intro (fun _ => ?_) (fun h => absurd h (by decide)); conv => whnf) | (refine And.intro (fun h => absurd h (by decide)) (fun _ => ?_); conv => whnf) | (refine .quiet (by kernel_rfl) ?_; conv => whnf))
    rw [show -(n + 1) = 0 - (n + 1) by omega]
    rfl
  · rw [if_neg (of_decide_eq_false hc)]
    conv => whnf
    rfl

/-! ### Lists that are read, step by step -/
/-- The state after k steps. -/
def stK {T : Type} (one : RS → T × RS) (q : RS) : Nat → RS × List T
  | 0 => (q, [])
  | k + 1 => if (stK one q k).1.bad = true then stK one q k else ((one (stK one q k).1).2, (stK one q k).2 ++ [(one (stK one q k).1).1])
theorem stK_stay {T : Type} {one : RS → T × RS} {q : RS} {k : Nat} (h : (stK one q k).1.bad = true) : ∀ s, stK one q (k + s) = stK one q k
  | 0 => rfl
  | s + 1 => by
    have ih := stK_stay h s
    show (if (stK one q (k + s)).1.bad = true then stK one q (k + s) else _) = _
    rw [ih, if_pos h]
theorem stK_len {T : Type} {one : RS → T × RS} (hone : ∀ q, q.bad = false → (one q).2.bad = false → (one q).2.rest.length < q.rest.length) (hbad : ∀ q, (one q).2.bad = true → q.bad = true ∨ (one q).2.rest.length ≤ q.rest.length) {q : RS} (hq : q.bad = false) :
    ∀ k, (stK one q k).2.length ≤ q.rest.length + 1 ∧ ((stK one q k).1.bad = false → (stK one q k).2.length + (stK one q k).1.rest.length ≤ q.rest.length)
  | 0 => by simp [stK]
  | k + 1 => by
    obtain ⟨h1, h2⟩ := stK_len hone hbad hq k
    unfold stK
    split
    · exact ⟨h1, h2⟩
    · rename_i hb
      have hb' : (stK one q k).1.bad = false := by simpa using hb
      have h2 := h2 hb'
      refine ⟨by simp; omega, fun hn => ?_⟩
      have := hone _ hb' hn
      simp only [List.length_append, List.length_singleton]
      omega

end Go.Proofs.YthepodkgphnibaaDoor

namespace Go.Proofs.YthepodkgphnibaaDoor
open Go.Own
set_option maxHeartbeats 1000000
set_option maxRecDepth 100000

abbrev oneI : RS → Int × RS := numQ 59 (-9223372036854775808)
def itemsQ {T : Type} (one : RS → T × RS) (q : RS) : Option (List T) × RS :=
  let x := numQ 91 0 q
  let y := stK one x.2 x.1.toNat
  match closeR [93] y.1.rest with
  | some r => (if y.1.bad = true then none else some y.2, ⟨r, y.1.bad⟩)
  | none => (none, ⟨[], true⟩)
def oneR {T : Type} (enc : T → AV) (d : T) (e E : Nat) : Option (List T) → AR
  | some l => .new (.row e E enc d l)
  | none => .val .nils

theorem stK_rest {T : Type} {one : RS → T × RS} (hle : ∀ q, (one q).2.rest.length ≤ q.rest.length) (q : RS) : ∀ k, (stK one q k).1.rest.length ≤ q.rest.length
  | 0 => Nat.le_refl _
  | k + 1 => by
    have ih := stK_rest hle q k
    unfold stK
    split
    · exact ih
    · exact Nat.le_trans (hle _) ih
theorem numQ_hi (c least : Int) (q : RS) : (numQ c least q).1 ≤ 9223372036854775807 := by
  unfold numQ
  cases h : numR c least q.rest with
  | none => show (0 : Int) ≤ _; omega
  | some x =>
    show x.1 ≤ _
    unfold numR at h
    simp only at h
    split at h
    · cases h
    · split at h
      · rename_i v hv
        split at h
        · cases h
          exact (Lib.atoiAll_bounds hv).2
        · cases h
      · cases h
theorem oneI_le (q : RS) : (oneI q).2.rest.length ≤ q.rest.length := (numQ_le 59 (-9223372036854775808) q (by omega)).2

theorem itemsI_ok (q : RS) (hs : q.rest.length ≤ 1000000000000) (hacc : ∀ k, (stK oneI (numQ 91 0 q).2 k).2.length ≤ 1000000000001) : AIO Tryd.prog 51 [.ptr 0 0, .fn (.func 24) [.ptr 0 0] []] [ro q] (fun bs rs => bs = [ro (itemsQ oneI q).2] ∧ rs = [oneR encI 0 3 1 (itemsQ oneI q).1]) := by
  have hn := num48 91 0 q (by omega)
  obtain ⟨h0, h1⟩ := numQ_le 91 0 q (Int.le_refl _)
  have h2 := numQ_hi 91 0 q
  unfold itemsQ
  simp only
  generalize numQ 91 0 q = x at *
  obtain ⟨n, q1⟩ := x
  replace hn : AIO Tryd.prog 48 [.ptr 0 0, .int .u8 91, .int .i64 0] [ro q] (fun bs rs => bs = [ro q1] ∧ rs = [.val (.int .i64 n)]) := hn
  simp only at h0 h1 h2 hacc ⊢
  have hsr := stK_rest oneI_le q1
  have hss : ∀ k, stK oneI q1 (k + 1) = if (stK oneI q1 k).1.bad = true then stK oneI q1 k else ((oneI (stK oneI q1 k).1).2, (stK oneI q1 k).2 ++ [(oneI (stK oneI q1 k).1).1]) := fun _ => rfl
  have hst : ∀ k, (stK oneI q1 k).1.bad = true → ∀ s, stK oneI q1 (k + s) = stK oneI q1 k := fun k h => stK_stay h
  have hs0 : stK oneI q1 0 = (q1, []) := rfl
  generalize stK oneI q1 = Z at *
  refine aio_of (C := cxP 1 32 [0, 1, 4, 5, 6, 17, 30]) (cxPOk _ _ _) Tryd.func51 rfl (by decide) rfl (by exact Nat.le_of_ble_eq_true rfl) (by decide) rfl rfl ?_
  conv => whnf
  refine .raw _ _ rfl (fun h => by cases h) (callio_sem (hn) [0] _ rfl rfl ⟨rfl, trivial⟩ (by repeat (first | exact .nil | (apply BorL.cons; first | exact .map _ _ rfl | exact .ptr _ _ _ rfl | exact .own _ _ rfl | (apply BorIO.lend; first | exact lS rfl | exact lR rfl | exact lM rfl rfl | exact lL rfl | exact lX rfl | exact lN | exact lNl | exact lSm rfl | exact lIm rfl | exact lP rfl | exact lQ rfl | exact lB rfl rfl rfl)))) rfl (by first | exact .inl rfl | exact .inr (fun b rs h => by obtain ⟨rfl, rfl⟩ := h; exact ⟨by repeat (first | exact flats_nil | refine flats_cons (by first | exact flat_val _ rfl | exact flat_row (fun _ => rfl) | exact flat_lst (fun _ => rfl)) ?_), by repeat (first | exact flats0 | refine flats1 (by first | exact flatB_row (fun _ => rfl) | exact flatB_lst (fun _ => rfl) | exact flatB_smap (fun _ => rfl) | exact flatB_imap (fun _ => rfl) | exact flatB_cells rfl) ?_)⟩))) ?_
  rintro w ⟨b', rs, ⟨rfl, rfl⟩, rfl⟩
  refine ⟨tn_ge _ _, ?_⟩
  conv => whnf
  refine loop_up (cxPOk _ _ _) n.toNat (fun _ => True) (fun k => ⟨[(0, .ptr 0 0), (1, .fn (.func 24) [.ptr 0 0] []), (5, .own 1), (6, .int .i64 (n - (k : Nat)))], [(0, .cells 54 [.str (Z k).1.rest, .bool (Z k).1.bad]), (1, .row 3 1 encI 0 (Z k).2)], 2⟩) trivial (by
    rw [hs0]
    exact (wk_of [(0, .id 0), (1, .nil)] rfl ⟨.base (.ptr _ _ _ rfl), .fn _ _ _ _ _ (by repeat (first | exact .nil | refine .cons (by first | exact .tree _ _ rfl rfl | exact .ptr _ _ _ rfl | exact .own _ _ rfl) ?_)) (by repeat (first | exact .nil | refine .cons (by first | exact .tree _ _ rfl rfl | exact .ptr _ _ _ rfl | exact .own _ _ rfl) ?_)), (by first | exact .base (.own _ _ rfl) | exact .base (.nilown _ rfl) | exact .base (.trunc _ _ _ rfl)), .base (.tree _ _ (show AV.int .i64 _ = AV.int .i64 _ by simp) rfl), trivial⟩ ⟨⟨_, rfl, .cells _ _ _ _ rfl (by repeat (first | exact .nil | refine .cons (by first | exact .base (.tree _ _ rfl rfl) | exact .base (.own _ _ rfl) | exact .base (.ptr _ _ _ rfl) | exact .base (.map _ _ rfl) | exact .base (.nilown _ rfl)) ?_)) rfl⟩, ⟨_, rfl, (by first | exact .row _ _ _ _ _ _ _ rfl rfl | exact .lstrow _ _ _ _ _ _ _ rfl rfl | exact .nilrow _ _ _ _ _ rfl | exact .truncrow _ _ _ _ _ _ _ _ rfl (by omega) rfl)⟩, trivial⟩)) ?_
  intro k hk _
  have hsk := hss k
  have hrk := hsr k
  have hak := hacc k
  have hstk := hst k
  generalize hzk : Z k = z at *
  obtain ⟨⟨r, b⟩, acc⟩ := z
  simp only at hsk hrk hak hstk
  conv => whnf
  repeat (first | (refine And.intro ⟨by omega, by omega⟩ ?_; conv => whnf) | (refine And.intro (by omega) (And.intro rfl ?_); conv => whnf) | (refine And.intro rfl ?_; conv => whnf) | (refine And.intro (fun _ => ⟨by omega, by omega⟩) ?_; conv => whnf) | (refine And.intro (fun _ => by omega) (And.intro rfl ?_); conv => whnf) | (refine And.intro ⟨(by first | omega | (simp; omega)), (by first | omega | (simp; omega))⟩ ?_; conv => whnf) | (refine Exists.intro _ (And.intro rfl (And.intro (by first | omega | (simp; omega)) (And.intro ⟨rfl, rfl, rfl, rfl, rfl⟩ ?_))); conv => whnf) | (refine And.intro ⟨rfl, rfl⟩ (And.intro (by first | omega | (simp; omega)) ?_); conv => whnf) | (refine Exists.intro _ (And.intro rfl ?_); conv => whnf) | (refine And.intro (fun _ => ?_) (fun h => absurd h (by decide)); conv => whnf) | (refine And.intro (fun h => absurd h (by decide)) (fun _ => ?_); conv => whnf) | (refine .quiet (by kernel_rfl) ?_; conv => whnf))
  refine ⟨fun hc => ?_, fun hc => ?_⟩
  · replace hc : (decide (0 < n - (k : Int)) && !b) = true := hc
    rw [Bool.and_eq_true, decide_eq_true_eq, Bool.not_eq_true'] at hc
    obtain ⟨hc1, rfl⟩ := hc
    rw [if_neg (by simp)] at hsk
    have hone := rint_ok ⟨r, false⟩ (show r.length ≤ 9223372036854775000 by omega)
    replace hone : AIO Tryd.prog 24 [.ptr 0 0] [.cells 54 [.str r, .bool false]] (fun bs rs => bs = [.cells 54 [.str (oneI ⟨r, false⟩).2.rest, .bool (oneI ⟨r, false⟩).2.bad]] ∧ rs = [.val (.int .i64 (oneI ⟨r, false⟩).1)]) := hone
    generalize oneI ⟨r, false⟩ = x at *
    conv => whnf
    refine .raw _ _ rfl (fun h => by cases h) (callio_sem (hone) [0] _ rfl rfl ⟨rfl, trivial⟩ (by repeat (first | exact .nil | (apply BorL.cons; first | exact .map _ _ rfl | exact .ptr _ _ _ rfl | exact .own _ _ rfl | (apply BorIO.lend; first | exact lS rfl | exact lR rfl | exact lM rfl rfl | exact lL rfl | exact lX rfl | exact lN | exact lNl | exact lSm rfl | exact lIm rfl | exact lP rfl | exact lQ rfl | exact lB rfl rfl rfl)))) rfl (by first | exact .inl rfl | exact .inr (fun b rs h => by obtain ⟨rfl, rfl⟩ := h; exact ⟨by repeat (first | exact flats_nil | refine flats_cons (by first | exact flat_val _ rfl | exact flat_row (fun _ => rfl) | exact flat_lst (fun _ => rfl)) ?_), by repeat (first | exact flats0 | refine flats1 (by first | exact flatB_row (fun _ => rfl) | exact flatB_lst (fun _ => rfl) | exact flatB_smap (fun _ => rfl) | exact flatB_imap (fun _ => rfl) | exact flatB_cells rfl) ?_)⟩))) ?_
    rintro w ⟨b', rs, ⟨rfl, rfl⟩, rfl⟩
    refine ⟨tn_ge _ _, ?_⟩
    conv => whnf
    refine And.intro rfl ?_
    conv => whnf
    refine And.intro ⟨rfl, rfl⟩ (And.intro (show (acc.length + 1) * 8 ≤ 140737488355328 by omega) ?_)
    conv => whnf
    refine ⟨x.1, rfl, ?_⟩
    conv => whnf
    repeat (first | (refine And.intro ⟨by omega, by omega⟩ ?_; conv => whnf) | (refine And.intro (by omega) (And.intro rfl ?_); conv => whnf) | (refine And.intro rfl ?_; conv => whnf) | (refine And.intro (fun _ => ⟨by omega, by omega⟩) ?_; conv => whnf) | (refine And.intro (fun _ => by omega) (And.intro rfl ?_); conv => whnf) | (refine And.intro ⟨(by first | omega | (simp; omega)), (by first | omega | (simp; omega))⟩ ?_; conv => whnf) | (refine Exists.intro _ (And.intro rfl (And.intro (by first | omega | (simp; omega)) (And.intro ⟨rfl, rfl, rfl, rfl, rfl⟩ ?_))); conv => whnf) | (refine And.intro ⟨rfl, rfl⟩ (And.intro (by first | omega | (simp; omega)) ?_); conv => whnf) | (refine Exists.intro _ (And.intro rfl ?_); conv => whnf) | (refine And.intro (fun _ => ?_) (fun h => absurd h (by decide)); conv => whnf) | (refine And.intro (fun h => absurd h (by decide)) (fun _ => ?_); conv => whnf) | (refine .quiet (by kernel_rfl) ?_; conv => whnf))
    have e1 : acc ++ [x.1] = (Z (k + 1)).2 := by rw [hsk]
    have e2 : x.2.rest = (Z (k + 1)).1.rest := by rw [hsk]
    have e3 : x.2.bad = (Z (k + 1)).1.bad := by rw [hsk]
    refine up (show k < n.toNat by omega) trivial ((wk_of [(0, .id 0), (1, .id 3)] rfl ⟨.base (.ptr _ _ _ rfl), .fn _ _ _ _ _ (by repeat (first | exact .nil | refine .cons (by first | exact .tree _ _ rfl rfl | exact .ptr _ _ _ rfl | exact .own _ _ rfl) ?_)) (by repeat (first | exact .nil | refine .cons (by first | exact .tree _ _ rfl rfl | exact .ptr _ _ _ rfl | exact .own _ _ rfl) ?_)), (by first | exact .base (.own _ _ rfl) | exact .base (.nilown _ rfl) | exact .base (.trunc _ _ _ rfl)), .base (.tree _ _ (show AV.int .i64 _ = AV.int .i64 _ by congr 1; omega) rfl), trivial⟩ ⟨⟨_, rfl, .cells _ _ _ _ rfl (by repeat (first | exact .nil | refine .cons (by first | exact .base (.tree _ _ rfl rfl) | exact .base (.own _ _ rfl) | exact .base (.ptr _ _ _ rfl) | exact .base (.map _ _ rfl) | exact .base (.nilown _ rfl) | exact .base (.tree _ _ (by first | rw [e2] | rw [e3]) rfl)) ?_)) rfl⟩, ⟨_, rfl, (by first | exact .row _ _ _ _ _ _ _ rfl (e1) | exact .lstrow _ _ _ _ _ _ _ rfl (e1) | exact .nilrow _ _ _ _ _ (e1) | exact .truncrow _ _ _ _ _ _ _ _ rfl (by omega) (e1))⟩, trivial⟩))
  · replace hc : (decide (0 < n - (k : Int)) && !b) = false := hc
    have hkn : Z n.toNat = Z k := by
      rw [Bool.and_eq_false_iff, decide_eq_false_iff_not, Bool.not_eq_false'] at hc
      rcases hc with h | h
      · rw [show n.toNat = k by omega]
      · rw [show n.toNat = k + (n.toNat - k) by omega, hstk h, hzk]
    rw [hkn, hzk]
    cases hcl : closeR [93] r with
    | some r' =>
      have hk2 := close_some (b := b) hcl
      conv => whnf
      refine .raw _ _ rfl (fun h => by cases h) (callio_sem (hk2) [0] _ rfl rfl ⟨rfl, trivial⟩ (by repeat (first | exact .nil | (apply BorL.cons; first | exact .map _ _ rfl | exact .ptr _ _ _ rfl | exact .own _ _ rfl | (apply BorIO.lend; first | exact lS rfl | exact lR rfl | exact lM rfl rfl | exact lL rfl | exact lX rfl | exact lN | exact lNl | exact lSm rfl | exact lIm rfl | exact lP rfl | exact lQ rfl | exact lB rfl rfl rfl)))) rfl (by first | exact .inl rfl | exact .inr (fun b rs h => by obtain ⟨rfl, rfl⟩ := h; exact ⟨by repeat (first | exact flats_nil | refine flats_cons (by first | exact flat_val _ rfl | exact flat_row (fun _ => rfl) | exact flat_lst (fun _ => rfl)) ?_), by repeat (first | exact flats0 | refine flats1 (by first | exact flatB_row (fun _ => rfl) | exact flatB_lst (fun _ => rfl) | exact flatB_smap (fun _ => rfl) | exact flatB_imap (fun _ => rfl) | exact flatB_cells rfl) ?_)⟩))) ?_
      rintro w ⟨b', rs, ⟨rfl, rfl⟩, rfl⟩
      refine ⟨tn_ge _ _, ?_⟩
      conv => whnf
      refine ⟨fun hb => ?_, fun hb => ?_⟩
      · conv => whnf
        refine ⟨rfl, ?_⟩
        rw [if_pos hb]
        rfl
      · conv => whnf
        refine ⟨rfl, ?_⟩
        rw [if_neg (by rw [hb]; simp)]
        rfl
    | none =>
      have hk2 := close_none (b := b) hcl
      conv => whnf
      refine .raw _ _ rfl (fun h => by cases h) (callio_sem (hk2) [0] _ rfl rfl ⟨rfl, trivial⟩ (by repeat (first | exact .nil | (apply BorL.cons; first | exact .map _ _ rfl | exact .ptr _ _ _ rfl | exact .own _ _ rfl | (apply BorIO.lend; first | exact lS rfl | exact lR rfl | exact lM rfl rfl | exact lL rfl | exact lX rfl | exact lN | exact lNl | exact lSm rfl | exact lIm rfl | exact lP rfl | exact lQ rfl | exact lB rfl rfl rfl)))) rfl (by first | exact .inl rfl | exact .inr (fun b rs h => by obtain ⟨rfl, rfl⟩ := h; exact ⟨by repeat (first | exact flats_nil | refine flats_cons (by first | exact flat_val _ rfl | exact flat_row (fun _ => rfl) | exact flat_lst (fun _ => rfl)) ?_), by repeat (first | exact flats0 | refine flats1 (by first | exact flatB_row (fun _ => rfl) | exact flatB_lst (fun _ => rfl) | exact flatB_smap (fun _ => rfl) | exact flatB_imap (fun _ => rfl) | exact flatB_cells rfl) ?_)⟩))) ?_
      rintro w ⟨b', rs, ⟨rfl, rfl⟩, rfl⟩
      refine ⟨tn_ge _ _, ?_⟩
      conv => whnf
      refine ⟨fun hb => ?_, fun hb => ?_⟩
      · conv => whnf
        exact ⟨rfl, rfl⟩
      · cases hb

end Go.Proofs.YthepodkgphnibaaDoor

namespace Go.Proofs.YthepodkgphnibaaDoor
open Go.Own
set_option maxHeartbeats 1000000
set_option maxRecDepth 100000

theorem closeR_le {e s r : List UInt8} (h : closeR e s = some r) : r.length ≤ s.length := by
  unfold closeR at h
  split at h
  · cases h
    unfold Lib.trimPrefix
    split <;> simp
  · cases h
theorem textQ_le (q : RS) : (textQ q).2.rest.length ≤ q.rest.length := by
  have h1 := (numQ_le 58 0 q (Int.le_refl _)).2
  unfold textQ
  simp only
  split
  · exact Nat.zero_le _
  · split
    · rename_i r hr
      have := closeR_le hr
      rw [List.length_drop] at this
      show r.length ≤ _
      omega
    · exact Nat.zero_le _

theorem itemsT_ok (q : RS) (hs : q.rest.length ≤ 1000000000000) (hacc : ∀ k, (stK textQ (numQ 91 0 q).2 k).2.length ≤ 1000000000001) : AIO Tryd.prog 52 [.ptr 0 0, .fn (.func 25) [.ptr 0 0] []] [ro q] (fun bs rs => bs = [ro (itemsQ textQ q).2] ∧ rs = [oneR encS [] 9 1 (itemsQ textQ q).1]) := by
  have hn := num48 91 0 q (by omega)
  obtain ⟨h0, h1⟩ := numQ_le 91 0 q (Int.le_refl _)
  have h2 := numQ_hi 91 0 q
  unfold itemsQ
  simp only
  generalize numQ 91 0 q = x at *
  obtain ⟨n, q1⟩ := x
  replace hn : AIO Tryd.prog 48 [.ptr 0 0, .int .u8 91, .int .i64 0] [ro q] (fun bs rs => bs = [ro q1] ∧ rs = [.val (.int .i64 n)]) := hn
  simp only at h0 h1 h2 hacc ⊢
  have hsr := stK_rest textQ_le q1
  have hss : ∀ k, stK textQ q1 (k + 1) = if (stK textQ q1 k).1.bad = true then stK textQ q1 k else ((textQ (stK textQ q1 k).1).2, (stK textQ q1 k).2 ++ [(textQ (stK textQ q1 k).1).1]) := fun _ => rfl
  have hst : ∀ k, (stK textQ q1 k).1.bad = true → ∀ s, stK textQ q1 (k + s) = stK textQ q1 k := fun k h => stK_stay h
  have hs0 : stK textQ q1 0 = (q1, []) := rfl
  generalize stK textQ q1 = Z at *
  refine aio_of (C := cxP 1 32 [0, 1, 4, 5, 6, 17, 30]) (cxPOk _ _ _) Tryd.func52 rfl (by decide) rfl (by exact Nat.le_of_ble_eq_true rfl) (by decide) rfl rfl ?_
  conv => whnf
  refine .raw _ _ rfl (fun h => by cases h) (callio_sem (hn) [0] _ rfl rfl ⟨rfl, trivial⟩ (by repeat (first | exact .nil | (apply BorL.cons; first | exact .map _ _ rfl | exact .ptr _ _ _ rfl | exact .own _ _ rfl | (apply BorIO.lend; first | exact lS rfl | exact lR rfl | exact lM rfl rfl | exact lL rfl | exact lX rfl | exact lN | exact lNl | exact lSm rfl | exact lIm rfl | exact lP rfl | exact lQ rfl | exact lB rfl rfl rfl)))) rfl (by first | exact .inl rfl | exact .inr (fun b rs h => by obtain ⟨rfl, rfl⟩ := h; exact ⟨by repeat (first | exact flats_nil | refine flats_cons (by first | exact flat_val _ rfl | exact flat_row (fun _ => rfl) | exact flat_lst (fun _ => rfl)) ?_), by repeat (first | exact flats0 | refine flats1 (by first | exact flatB_row (fun _ => rfl) | exact flatB_lst (fun _ => rfl) | exact flatB_smap (fun _ => rfl) | exact flatB_imap (fun _ => rfl) | exact flatB_cells rfl) ?_)⟩))) ?_
  rintro w ⟨b', rs, ⟨rfl, rfl⟩, rfl⟩
  refine ⟨tn_ge _ _, ?_⟩
  conv => whnf
  refine loop_up (cxPOk _ _ _) n.toNat (fun _ => True) (fun k => ⟨[(0, .ptr 0 0), (1, .fn (.func 25) [.ptr 0 0] []), (5, .own 1), (6, .int .i64 (n - (k : Nat)))], [(0, .cells 54 [.str (Z k).1.rest, .bool (Z k).1.bad]), (1, .row 9 1 encS [] (Z k).2)], 2⟩) trivial (by
    rw [hs0]
    exact (wk_of [(0, .id 0), (1, .nil)] rfl ⟨.base (.ptr _ _ _ rfl), .fn _ _ _ _ _ (by repeat (first | exact .nil | refine .cons (by first | exact .tree _ _ rfl rfl | exact .ptr _ _ _ rfl | exact .own _ _ rfl) ?_)) (by repeat (first | exact .nil | refine .cons (by first | exact .tree _ _ rfl rfl | exact .ptr _ _ _ rfl | exact .own _ _ rfl) ?_)), (by first | exact .base (.own _ _ rfl) | exact .base (.nilown _ rfl) | exact .base (.trunc _ _ _ rfl)), .base (.tree _ _ (show AV.int .i64 _ = AV.int .i64 _ by simp) rfl), trivial⟩ ⟨⟨_, rfl, .cells _ _ _ _ rfl (by repeat (first | exact .nil | refine .cons (by first | exact .base (.tree _ _ rfl rfl) | exact .base (.own _ _ rfl) | exact .base (.ptr _ _ _ rfl) | exact .base (.map _ _ rfl) | exact .base (.nilown _ rfl)) ?_)) rfl⟩, ⟨_, rfl, (by first | exact .row _ _ _ _ _ _ _ rfl rfl | exact .lstrow _ _ _ _ _ _ _ rfl rfl | exact .nilrow _ _ _ _ _ rfl | exact .truncrow _ _ _ _ _ _ _ _ rfl (by omega) rfl)⟩, trivial⟩)) ?_
  intro k hk _
  have hsk := hss k
  have hrk := hsr k
  have hak := hacc k
  have hstk := hst k
  generalize hzk : Z k = z at *
  obtain ⟨⟨r, b⟩, acc⟩ := z
  simp only at hsk hrk hak hstk
  conv => whnf
  repeat (first | (refine And.intro ⟨by omega, by omega⟩ ?_; conv => whnf) | (refine And.intro (by omega) (And.intro rfl ?_); conv => whnf) | (refine And.intro rfl ?_; conv => whnf) | (refine And.intro (fun _ => ⟨by omega, by omega⟩) ?_; conv => whnf) | (refine And.intro (fun _ => by omega) (And.intro rfl ?_); conv => whnf) | (refine And.intro ⟨(by first | omega | (simp; omega)), (by first | omega | (simp; omega))⟩ ?_; conv => whnf) | (refine Exists.intro _ (And.intro rfl (And.intro (by first | omega | (simp; omega)) (And.intro ⟨rfl, rfl, rfl, rfl, rfl⟩ ?_))); conv => whnf) | (refine And.intro ⟨rfl, rfl⟩ (And.intro (by first | omega | (simp; omega)) ?_); conv => whnf) | (refine Exists.intro _ (And.intro rfl ?_); conv => whnf) | (refine And.intro (fun _ => ?_) (fun h => absurd h (by decide)); conv => whnf) | (refine And.intro (fun h => absurd h (by decide)) (fun _ => ?_); conv => whnf) | (refine .quiet (by kernel_rfl) ?_; conv => whnf))
  refine ⟨fun hc => ?_, fun hc => ?_⟩
  · replace hc : (decide (0 < n - (k : Int)) && !b) = true := hc
    rw [Bool.and_eq_true, decide_eq_true_eq, Bool.not_eq_true'] at hc
    obtain ⟨hc1, rfl⟩ := hc
    rw [if_neg (by simp)] at hsk
    have hone := rtext_ok ⟨r, false⟩ (show r.length ≤ 9223372036854775000 by omega)
    replace hone : AIO Tryd.prog 25 [.ptr 0 0] [.cells 54 [.str r, .bool false]] (fun bs rs => bs = [.cells 54 [.str (textQ ⟨r, false⟩).2.rest, .bool (textQ ⟨r, false⟩).2.bad]] ∧ rs = [.val (.str (textQ ⟨r, false⟩).1)]) := hone
    generalize textQ ⟨r, false⟩ = x at *
    conv => whnf
    refine .raw _ _ rfl (fun h => by cases h) (callio_sem (hone) [0] _ rfl rfl ⟨rfl, trivial⟩ (by repeat (first | exact .nil | (apply BorL.cons; first | exact .map _ _ rfl | exact .ptr _ _ _ rfl | exact .own _ _ rfl | (apply BorIO.lend; first | exact lS rfl | exact lR rfl | exact lM rfl rfl | exact lL rfl | exact lX rfl | exact lN | exact lNl | exact lSm rfl | exact lIm rfl | exact lP rfl | exact lQ rfl | exact lB rfl rfl rfl)))) rfl (by first | exact .inl rfl | exact .inr (fun b rs h => by obtain ⟨rfl, rfl⟩ := h; exact ⟨by repeat (first | exact flats_nil | refine flats_cons (by first | exact flat_val _ rfl | exact flat_row (fun _ => rfl) | exact flat_lst (fun _ => rfl)) ?_), by repeat (first | exact flats0 | refine flats1 (by first | exact flatB_row (fun _ => rfl) | exact flatB_lst (fun _ => rfl) | exact flatB_smap (fun _ => rfl) | exact flatB_imap (fun _ => rfl) | exact flatB_cells rfl) ?_)⟩))) ?_
    rintro w ⟨b', rs, ⟨rfl, rfl⟩, rfl⟩
    refine ⟨tn_ge _ _, ?_⟩
    conv => whnf
    refine And.intro rfl ?_
    conv => whnf
    refine And.intro ⟨rfl, rfl⟩ (And.intro (show (acc.length + 1) * 16 ≤ 140737488355328 by omega) ?_)
    conv => whnf
    refine ⟨x.1, rfl, ?_⟩
    conv => whnf
    repeat (first | (refine And.intro ⟨by omega, by omega⟩ ?_; conv => whnf) | (refine And.intro (by omega) (And.intro rfl ?_); conv => whnf) | (refine And.intro rfl ?_; conv => whnf) | (refine And.intro (fun _ => ⟨by omega, by omega⟩) ?_; conv => whnf) | (refine And.intro (fun _ => by omega) (And.intro rfl ?_); conv => whnf) | (refine And.intro ⟨(by first | omega | (simp; omega)), (by first | omega | (simp; omega))⟩ ?_; conv => whnf) | (refine Exists.intro _ (And.intro rfl (And.intro (by first | omega | (simp; omega)) (And.intro ⟨rfl, rfl, rfl, rfl, rfl⟩ ?_))); conv => whnf) | (refine And.intro ⟨rfl, rfl⟩ (And.intro (by first | omega | (simp; omega)) ?_); conv => whnf) | (refine Exists.intro _ (And.intro rfl ?_); conv => whnf) | (refine And.intro (fun _ => ?_) (fun h => absurd h (by decide)); conv => whnf) | (refine And.intro (fun h => absurd h (by decide)) (fun _ => ?_); conv => whnf) | (refine .quiet (by kernel_rfl) ?_; conv => whnf))
    have e1 : acc ++ [x.1] = (Z (k + 1)).2 := by rw [hsk]
    have e2 : x.2.rest = (Z (k + 1)).1.rest := by rw [hsk]
    have e3 : x.2.bad = (Z (k + 1)).1.bad := by rw [hsk]
    refine up (show k < n.toNat by omega) trivial ((wk_of [(0, .id 0), (1, .id 3)] rfl ⟨.base (.ptr _ _ _ rfl), .fn _ _ _ _ _ (by repeat (first | exact .nil | refine .cons (by first | exact .tree _ _ rfl rfl | exact .ptr _ _ _ rfl | exact .own _ _ rfl) ?_)) (by repeat (first | exact .nil | refine .cons (by first | exact .tree _ _ rfl rfl | exact .ptr _ _ _ rfl | exact .own _ _ rfl) ?_)), (by first | exact .base (.own _ _ rfl) | exact .base (.nilown _ rfl) | exact .base (.trunc _ _ _ rfl)), .base (.tree _ _ (show AV.int .i64 _ = AV.int .i64 _ by congr 1; omega) rfl), trivial⟩ ⟨⟨_, rfl, .cells _ _ _ _ rfl (by repeat (first | exact .nil | refine .cons (by first | exact .base (.tree _ _ rfl rfl) | exact .base (.own _ _ rfl) | exact .base (.ptr _ _ _ rfl) | exact .base (.map _ _ rfl) | exact .base (.nilown _ rfl) | exact .base (.tree _ _ (by first | rw [e2] | rw [e3]) rfl)) ?_)) rfl⟩, ⟨_, rfl, (by first | exact .row _ _ _ _ _ _ _ rfl (e1) | exact .lstrow _ _ _ _ _ _ _ rfl (e1) | exact .nilrow _ _ _ _ _ (e1) | exact .truncrow _ _ _ _ _ _ _ _ rfl (by omega) (e1))⟩, trivial⟩))
  · replace hc : (decide (0 < n - (k : Int)) && !b) = false := hc
    have hkn : Z n.toNat = Z k := by
      rw [Bool.and_eq_false_iff, decide_eq_false_iff_not, Bool.not_eq_false'] at hc
      rcases hc with h | h
      · rw [show n.toNat = k by omega]
      · rw [show n.toNat = k + (n.toNat - k) by omega, hstk h, hzk]
    rw [hkn, hzk]
    cases hcl : closeR [93] r with
    | some r' =>
      have hk2 := close_some (b := b) hcl
      conv => whnf
      refine .raw _ _ rfl (fun h => by cases h) (callio_sem (hk2) [0] _ rfl rfl ⟨rfl, trivial⟩ (by repeat (first | exact .nil | (apply BorL.cons; first | exact .map _ _ rfl | exact .ptr _ _ _ rfl | exact .own _ _ rfl | (apply BorIO.lend; first | exact lS rfl | exact lR rfl | exact lM rfl rfl | exact lL rfl | exact lX rfl | exact lN | exact lNl | exact lSm rfl | exact lIm rfl | exact lP rfl | exact lQ rfl | exact lB rfl rfl rfl)))) rfl (by first | exact .inl rfl | exact .inr (fun b rs h => by obtain ⟨rfl, rfl⟩ := h; exact ⟨by repeat (first | exact flats_nil | refine flats_cons (by first | exact flat_val _ rfl | exact flat_row (fun _ => rfl) | exact flat_lst (fun _ => rfl)) ?_), by repeat (first | exact flats0 | refine flats1 (by first | exact flatB_row (fun _ => rfl) | exact flatB_lst (fun _ => rfl) | exact flatB_smap (fun _ => rfl) | exact flatB_imap (fun _ => rfl) | exact flatB_cells rfl) ?_)⟩))) ?_
      rintro w ⟨b', rs, ⟨rfl, rfl⟩, rfl⟩
      refine ⟨tn_ge _ _, ?_⟩
      conv => whnf
      refine ⟨fun hb => ?_, fun hb => ?_⟩
      · conv => whnf
        refine ⟨rfl, ?_⟩
        rw [if_pos hb]
        rfl
      · conv => whnf
        refine ⟨rfl, ?_⟩
        rw [if_neg (by rw [hb]; simp)]
        rfl
    | none =>
      have hk2 := close_none (b := b) hcl
      conv => whnf
      refine .raw _ _ rfl (fun h => by cases h) (callio_sem (hk2) [0] _ rfl rfl ⟨rfl, trivial⟩ (by repeat (first | exact .nil | (apply BorL.cons; first | exact .map _ _ rfl | exact .ptr _ _ _ rfl | exact .own _ _ rfl | (apply BorIO.lend; first | exact lS rfl | exact lR rfl | exact lM rfl rfl | exact lL rfl | exact lX rfl | exact lN | exact lNl | exact lSm rfl | exact lIm rfl | exact lP rfl | exact lQ rfl | exact lB rfl rfl rfl)))) rfl (by first | exact .inl rfl | exact .inr (fun b rs h => by obtain ⟨rfl, rfl⟩ := h; exact ⟨by repeat (first | exact flats_nil | refine flats_cons (by first | exact flat_val _ rfl | exact flat_row (fun _ => rfl) | exact flat_lst (fun _ => rfl)) ?_), by repeat (first | exact flats0 | refine flats1 (by first | exact flatB_row (fun _ => rfl) | exact flatB_lst (fun _ => rfl) | exact flatB_smap (fun _ => rfl) | exact flatB_imap (fun _ => rfl) | exact flatB_cells rfl) ?_)⟩))) ?_
      rintro w ⟨b', rs, ⟨rfl, rfl⟩, rfl⟩
      refine ⟨tn_ge _ _, ?_⟩
      conv => whnf
      refine ⟨fun hb => ?_, fun hb => ?_⟩
      · conv => whnf
        exact ⟨rfl, rfl⟩
      · cases hb

end Go.Proofs.YthepodkgphnibaaDoor

namespace Go.Proofs.YthepodkgphnibaaDoor
open Go.Own
set_option maxHeartbeats 1000000
set_option maxRecDepth 100000

theorem rnums_ok (q : RS) (hs : q.rest.length ≤ 1000000000000) (hacc : ∀ k, (stK oneI (numQ 91 0 q).2 k).2.length ≤ 1000000000001) : AIO Tryd.prog 26 [.ptr 0 0] [ro q] (fun bs rs => bs = [ro (itemsQ oneI q).2] ∧ rs = [oneR encI 0 3 1 (itemsQ oneI q).1]) := by
  have hi := itemsI_ok q hs hacc
  generalize itemsQ oneI q = x at *
  obtain ⟨o, q'⟩ := x
  cases o with
  | none =>
    refine aio_of (C := cxP 1 7 [0, 2]) (cxPOk _ _ _) Tryd.func26 rfl (by decide) rfl (by exact Nat.le_of_ble_eq_true rfl) (by decide) rfl rfl ?_
    conv => whnf
    refine .raw _ _ rfl (fun h => by cases h) (callio_sem (hi) [0] _ rfl rfl ⟨rfl, trivial⟩ (by repeat (first | exact .nil | (apply BorL.cons; first | exact .map _ _ rfl | exact .ptr _ _ _ rfl | exact .own _ _ rfl | exact .fnp _ _ _ _ rfl | (apply BorIO.lend; first | exact lS rfl | exact lR rfl | exact lM rfl rfl | exact lL rfl | exact lX rfl | exact lN | exact lNl | exact lSm rfl | exact lIm rfl | exact lP rfl | exact lQ rfl | exact lB rfl rfl rfl)))) rfl (by first | exact .inl rfl | exact .inr (fun b rs h => by obtain ⟨rfl, rfl⟩ := h; exact ⟨by repeat (first | exact flats_nil | refine flats_cons (by first | exact flat_val _ rfl | exact flat_row (fun _ => rfl) | exact flat_lst (fun _ => rfl)) ?_), by repeat (first | exact flats0 | refine flats1 (by first | exact flatB_row (fun _ => rfl) | exact flatB_lst (fun _ => rfl) | exact flatB_smap (fun _ => rfl) | exact flatB_imap (fun _ => rfl) | exact flatB_cells rfl) ?_)⟩))) ?_
    rintro w ⟨b', rs, ⟨rfl, rfl⟩, rfl⟩
    refine ⟨tn_ge _ _, ?_⟩
    conv => whnf
    exact ⟨rfl, rfl⟩
  | some l =>
    refine aio_of (C := cxP 1 7 [0, 2]) (cxPOk _ _ _) Tryd.func26 rfl (by decide) rfl (by exact Nat.le_of_ble_eq_true rfl) (by decide) rfl rfl ?_
    conv => whnf
    refine .raw _ _ rfl (fun h => by cases h) (callio_sem (hi) [0] _ rfl rfl ⟨rfl, trivial⟩ (by repeat (first | exact .nil | (apply BorL.cons; first | exact .map _ _ rfl | exact .ptr _ _ _ rfl | exact .own _ _ rfl | exact .fnp _ _ _ _ rfl | (apply BorIO.lend; first | exact lS rfl | exact lR rfl | exact lM rfl rfl | exact lL rfl | exact lX rfl | exact lN | exact lNl | exact lSm rfl | exact lIm rfl | exact lP rfl | exact lQ rfl | exact lB rfl rfl rfl)))) rfl (by first | exact .inl rfl | exact .inr (fun b rs h => by obtain ⟨rfl, rfl⟩ := h; exact ⟨by repeat (first | exact flats_nil | refine flats_cons (by first | exact flat_val _ rfl | exact flat_row (fun _ => rfl) | exact flat_lst (fun _ => rfl)) ?_), by repeat (first | exact flats0 | refine flats1 (by first | exact flatB_row (fun _ => rfl) | exact flatB_lst (fun _ => rfl) | exact flatB_smap (fun _ => rfl) | exact flatB_imap (fun _ => rfl) | exact flatB_cells rfl) ?_)⟩))) ?_
    rintro w ⟨b', rs, ⟨rfl, rfl⟩, rfl⟩
    refine ⟨tn_ge _ _, ?_⟩
    conv => whnf
    exact ⟨rfl, rfl⟩
theorem rtexts_ok (q : RS) (hs : q.rest.length ≤ 1000000000000) (hacc : ∀ k, (stK textQ (numQ 91 0 q).2 k).2.length ≤ 1000000000001) : AIO Tryd.prog 27 [.ptr 0 0] [ro q] (fun bs rs => bs = [ro (itemsQ textQ q).2] ∧ rs = [oneR encS [] 9 1 (itemsQ textQ q).1]) := by
  have hi := itemsT_ok q hs hacc
  generalize itemsQ textQ q = x at *
  obtain ⟨o, q'⟩ := x
  cases o with
  | none =>
    refine aio_of (C := cxP 1 7 [0, 2]) (cxPOk _ _ _) Tryd.func27 rfl (by decide) rfl (by exact Nat.le_of_ble_eq_true rfl) (by decide) rfl rfl ?_
    conv => whnf
    refine .raw _ _ rfl (fun h => by cases h) (callio_sem (hi) [0] _ rfl rfl ⟨rfl, trivial⟩ (by repeat (first | exact .nil | (apply BorL.cons; first | exact .map _ _ rfl | exact .ptr _ _ _ rfl | exact .own _ _ rfl | exact .fnp _ _ _ _ rfl | (apply BorIO.lend; first | exact lS rfl | exact lR rfl | exact lM rfl rfl | exact lL rfl | exact lX rfl | exact lN | exact lNl | exact lSm rfl | exact lIm rfl | exact lP rfl | exact lQ rfl | exact lB rfl rfl rfl)))) rfl (by first | exact .inl rfl | exact .inr (fun b rs h => by obtain ⟨rfl, rfl⟩ := h; exact ⟨by repeat (first | exact flats_nil | refine flats_cons (by first | exact flat_val _ rfl | exact flat_row (fun _ => rfl) | exact flat_lst (fun _ => rfl)) ?_), by repeat (first | exact flats0 | refine flats1 (by first | exact flatB_row (fun _ => rfl) | exact flatB_lst (fun _ => rfl) | exact flatB_smap (fun _ => rfl) | exact flatB_imap (fun _ => rfl) | exact flatB_cells rfl) ?_)⟩))) ?_
    rintro w ⟨b', rs, ⟨rfl, rfl⟩, rfl⟩
    refine ⟨tn_ge _ _, ?_⟩
    conv => whnf
    exact ⟨rfl, rfl⟩
  | some l =>
    refine aio_of (C := cxP 1 7 [0, 2]) (cxPOk _ _ _) Tryd.func27 rfl (by decide) rfl (by exact Nat.le_of_ble_eq_true rfl) (by decide) rfl rfl ?_
    conv => whnf
    refine .raw _ _ rfl (fun h => by cases h) (callio_sem (hi) [0] _ rfl rfl ⟨rfl, trivial⟩ (by repeat (first | exact .nil | (apply BorL.cons; first | exact .map _ _ rfl | exact .ptr _ _ _ rfl | exact .own _ _ rfl | exact .fnp _ _ _ _ rfl | (apply BorIO.lend; first | exact lS rfl | exact lR rfl | exact lM rfl rfl | exact lL rfl | exact lX rfl | exact lN | exact lNl | exact lSm rfl | exact lIm rfl | exact lP rfl | exact lQ rfl | exact lB rfl rfl rfl)))) rfl (by first | exact .inl rfl | exact .inr (fun b rs h => by obtain ⟨rfl, rfl⟩ := h; exact ⟨by repeat (first | exact flats_nil | refine flats_cons (by first | exact flat_val _ rfl | exact flat_row (fun _ => rfl) | exact flat_lst (fun _ => rfl)) ?_), by repeat (first | exact flats0 | refine flats1 (by first | exact flatB_row (fun _ => rfl) | exact flatB_lst (fun _ => rfl) | exact flatB_smap (fun _ => rfl) | exact flatB_imap (fun _ => rfl) | exact flatB_cells rfl) ?_)⟩))) ?_
    rintro w ⟨b', rs, ⟨rfl, rfl⟩, rfl⟩
    refine ⟨tn_ge _ _, ?_⟩
    conv => whnf
    exact ⟨rfl, rfl⟩

end Go.Proofs.YthepodkgphnibaaDoor

namespace Go.Proofs.YthepodkgphnibaaDoor
open Go.Own
set_option maxHeartbeats 1000000
set_option maxRecDepth 100000

theorem take_succ_eq {α : Type} [DecidableEq α] {a b : List α} {k : Nat} (d : α) (h : k < a.length) (hl : a.length = b.length) : (a.take (k + 1) = b.take (k + 1)) ↔ (a.take k = b.take k ∧ a.getD k d = b.getD k d) := by
  rw [take_getD (d := d) h, take_getD (d := d) (by omega)]
  constructor
  · intro h'
    have := List.append_inj' h' rfl
    simpa using this
  · rintro ⟨h1, h2⟩
    rw [h1, h2]

theorem sameI_ok (a b : List Int) (ha : a.length ≤ 9223372036854775807) (hb : b.length ≤ 9223372036854775807) : APureV Tryd.prog 36 [.sl 1 encI 0 a, .sl 1 encI 0 b] (.bool (decide (a = b))) := by
  refine apure_of (C := cx 26 [0, 1, 4, 5, 10, 14, 25]) (cxOk _ _) Tryd.func36 rfl (by decide) rfl (by exact Nat.le_of_ble_eq_true rfl) (by decide) ?_
  conv => whnf
  refine ⟨fun hc => ?_, fun hc => ?_⟩
  · conv => whnf
    have : decide (a = b) = false := by
      simp only [Bool.not_eq_true', decide_eq_false_iff_not] at hc ⊢
      intro h
      subst h
      exact hc rfl
    rw [this]
    rfl
  conv => whnf
  have hlen : a.length = b.length := by
    simp only [Bool.not_eq_false', decide_eq_true_eq] at hc
    omega
  refine loop_up (cxOk _ _) a.length (fun k => a.take k = b.take k) (fun k => ⟨[(0, .sl 1 encI 0 a), (1, .sl 1 encI 0 b), (5, .int .i64 k)], [], 0⟩) (by simp) (wk_of [] rfl ⟨.base (.tree _ _ rfl rfl), .base (.tree _ _ rfl rfl), .base (.tree _ _ rfl rfl), trivial⟩ trivial) ?_
  intro k hk hP
  conv => whnf
  refine ⟨fun hc => ?_, fun hc => ?_⟩
  · simp only [decide_eq_true_eq] at hc
    have hlt : k < a.length := by omega
    conv => whnf
    repeat (first | (refine And.intro ⟨by omega, by omega⟩ ?_; conv => whnf) | (refine And.intro (by omega) (And.intro rfl ?_); conv => whnf) | (refine And.intro rfl ?_; conv => whnf) | (refine And.intro (fun _ => ⟨by omega, by omega⟩) ?_; conv => whnf) | (refine And.intro (fun _ => by omega) (And.intro rfl ?_); conv => whnf) | (refine And.intro ⟨(by first | omega | (simp; omega)), (by first | omega | (simp; omega))⟩ ?_; conv => whnf) | (refine Exists.intro _ (And.intro rfl (And.intro (by first | omega | (simp; omega)) (And.intro ⟨rfl, rfl, rfl, rfl, rfl⟩ ?_))); conv => whnf) | (refine And.intro ⟨rfl, rfl⟩ (And.intro (by first | omega | (simp; omega)) ?_); conv => whnf) | (refine Exists.intro _ (And.intro rfl ?_); conv => whnf) | (refine And.intro (fun _ => ?_) (fun h => absurd h (by decide)); conv => whnf) | (refine And.intro (fun h => absurd h (by decide)) (fun _ => ?_); conv => whnf) | (refine .quiet (by kernel_rfl) ?_; conv => whnf))
    refine ⟨fun hd => ?_, fun hd => ?_⟩
    · conv => whnf
      simp only [Int.toNat_natCast, Bool.not_eq_true', decide_eq_false_iff_not] at hd
      have : decide (a = b) = false := by
        rw [decide_eq_false_iff_not]
        intro h
        rw [h] at hd
        exact hd rfl
      rw [this]
      rfl
    · simp only [Int.toNat_natCast, Bool.not_eq_false', decide_eq_true_eq] at hd
      conv => whnf
      repeat (first | (refine And.intro ⟨by omega, by omega⟩ ?_; conv => whnf) | (refine And.intro (by omega) (And.intro rfl ?_); conv => whnf) | (refine And.intro rfl ?_; conv => whnf) | (refine And.intro (fun _ => ⟨by omega, by omega⟩) ?_; conv => whnf) | (refine And.intro (fun _ => by omega) (And.intro rfl ?_); conv => whnf) | (refine And.intro ⟨(by first | omega | (simp; omega)), (by first | omega | (simp; omega))⟩ ?_; conv => whnf) | (refine Exists.intro _ (And.intro rfl (And.intro (by first | omega | (simp; omega)) (And.intro ⟨rfl, rfl, rfl, rfl, rfl⟩ ?_))); conv => whnf) | (refine And.intro ⟨rfl, rfl⟩ (And.intro (by first | omega | (simp; omega)) ?_); conv => whnf) | (refine Exists.intro _ (And.intro rfl ?_); conv => whnf) | (refine And.intro (fun _ => ?_) (fun h => absurd h (by decide)); conv => whnf) | (refine And.intro (fun h => absurd h (by decide)) (fun _ => ?_); conv => whnf) | (refine .quiet (by kernel_rfl) ?_; conv => whnf))
      refine up hlt ((take_succ_eq 0 hlt hlen).2 ⟨hP, hd⟩) (wk_of [] rfl ⟨.base (.tree _ _ rfl rfl), .base (.tree _ _ rfl rfl), .base (.tree _ _ rfl rfl), trivial⟩ trivial)
  · simp only [decide_eq_false_iff_not] at hc
    conv => whnf
    rw [List.take_of_length_le (by omega), List.take_of_length_le (by omega)] at hP
    rw [decide_eq_true hP]
    rfl

theorem sameT_ok (a b : List (List UInt8)) (ha : a.length ≤ 9223372036854775807) (hb : b.length ≤ 9223372036854775807) : APureV Tryd.prog 38 [.sl 1 encS [] a, .sl 1 encS [] b] (.bool (decide (a = b))) := by
  refine apure_of (C := cx 26 [0, 1, 4, 5, 10, 14, 25]) (cxOk _ _) Tryd.func38 rfl (by decide) rfl (by exact Nat.le_of_ble_eq_true rfl) (by decide) ?_
  conv => whnf
  refine ⟨fun hc => ?_, fun hc => ?_⟩
  · conv => whnf
    have : decide (a = b) = false := by
      simp only [Bool.not_eq_true', decide_eq_false_iff_not] at hc ⊢
      intro h
      subst h
      exact hc rfl
    rw [this]
    rfl
  conv => whnf
  have hlen : a.length = b.length := by
    simp only [Bool.not_eq_false', decide_eq_true_eq] at hc
    omega
  refine loop_up (cxOk _ _) a.length (fun k => a.take k = b.take k) (fun k => ⟨[(0, .sl 1 encS [] a), (1, .sl 1 encS [] b), (5, .int .i64 k)], [], 0⟩) (by simp) (wk_of [] rfl ⟨.base (.tree _ _ rfl rfl), .base (.tree _ _ rfl rfl), .base (.tree _ _ rfl rfl), trivial⟩ trivial) ?_
  intro k hk hP
  conv => whnf
  refine ⟨fun hc => ?_, fun hc => ?_⟩
  · simp only [decide_eq_true_eq] at hc
    have hlt : k < a.length := by omega
    conv => whnf
    repeat (first | (refine And.intro ⟨by omega, by omega⟩ ?_; conv => whnf) | (refine And.intro (by omega) (And.intro rfl ?_); conv => whnf) | (refine And.intro rfl ?_; conv => whnf) | (refine And.intro (fun _ => ⟨by omega, by omega⟩) ?_; conv => whnf) | (refine And.intro (fun _ => by omega) (And.intro rfl ?_); conv => whnf) | (refine And.intro ⟨(by first | omega | (simp; omega)), (by first | omega | (simp; omega))⟩ ?_; conv => whnf) | (refine Exists.intro _ (And.intro rfl (And.intro (by first | omega | (simp; omega)) (And.intro ⟨rfl, rfl, rfl, rfl, rfl⟩ ?_))); conv => whnf) | (refine And.intro ⟨rfl, rfl⟩ (And.intro (by first | omega | (simp; omega)) ?_); conv => whnf) | (refine Exists.intro _ (And.intro rfl ?_); conv => whnf) | (refine And.intro (fun _ => ?_) (fun h => absurd h (by decide)); conv => whnf) | (refine And.intro (fun h => absurd h (by decide)) (fun _ => ?_); conv => whnf) | (refine .quiet (by kernel_rfl) ?_; conv => whnf))
    refine ⟨fun hd => ?_, fun hd => ?_⟩
    · conv => whnf
      simp only [Int.toNat_natCast, Bool.not_eq_true', decide_eq_false_iff_not] at hd
      have : decide (a = b) = false := by
        rw [decide_eq_false_iff_not]
        intro h
        rw [h] at hd
        exact hd rfl
      rw [this]
      rfl
    · simp only [Int.toNat_natCast, Bool.not_eq_false', decide_eq_true_eq] at hd
      conv => whnf
      repeat (first | (refine And.intro ⟨by omega, by omega⟩ ?_; conv => whnf) | (refine And.intro (by omega) (And.intro rfl ?_); conv => whnf) | (refine And.intro rfl ?_; conv => whnf) | (refine And.intro (fun _ => ⟨by omega, by omega⟩) ?_; conv => whnf) | (refine And.intro (fun _ => by omega) (And.intro rfl ?_); conv => whnf) | (refine And.intro ⟨(by first | omega | (simp; omega)), (by first | omega | (simp; omega))⟩ ?_; conv => whnf) | (refine Exists.intro _ (And.intro rfl (And.intro (by first | omega | (simp; omega)) (And.intro ⟨rfl, rfl, rfl, rfl, rfl⟩ ?_))); conv => whnf) | (refine And.intro ⟨rfl, rfl⟩ (And.intro (by first | omega | (simp; omega)) ?_); conv => whnf) | (refine Exists.intro _ (And.intro rfl ?_); conv => whnf) | (refine And.intro (fun _ => ?_) (fun h => absurd h (by decide)); conv => whnf) | (refine And.intro (fun h => absurd h (by decide)) (fun _ => ?_); conv => whnf) | (refine .quiet (by kernel_rfl) ?_; conv => whnf))
      refine up hlt ((take_succ_eq [] hlt hlen).2 ⟨hP, hd⟩) (wk_of [] rfl ⟨.base (.tree _ _ rfl rfl), .base (.tree _ _ rfl rfl), .base (.tree _ _ rfl rfl), trivial⟩ trivial)
  · simp only [decide_eq_false_iff_not] at hc
    conv => whnf
    rw [List.take_of_length_le (by omega), List.take_of_length_le (by omega)] at hP
    rw [decide_eq_true hP]
    rfl

end Go.Proofs.YthepodkgphnibaaDoor

namespace Go.Proofs.YthepodkgphnibaaDoor
open Go.Own
set_option maxHeartbeats 1000000
set_option maxRecDepth 100000

theorem numR_lt {c least : Int} {s r : List UInt8} {n : Int} (h : numR c least s = some (n, r)) : r.length < s.length := by
  unfold numR at h
  simp only at h
  split at h
  · cases h
  · rename_i hp
    obtain ⟨o, ho⟩ : ∃ o : Nat, Lib.indexByte (s.take (min s.length 21)) c.toNat.toUInt8 = (o : Int) := ⟨_, (Int.toNat_of_nonneg (by omega)).symm⟩
    have hol := (List.getElem?_eq_some_iff.1 (Lib.indexByte_some ho).1).1
    rw [List.length_take] at hol
    split at h
    · split at h
      · cases h
        rw [List.length_drop]
        omega
      · cases h
    · cases h
theorem numQ_lt {c least : Int} {q : RS} (h : (numQ c least q).2.bad = false) : (numQ c least q).2.rest.length < q.rest.length := by
  unfold numQ at h ⊢
  cases hn : numR c least q.rest with
  | none => rw [hn] at h; cases h
  | some x => exact numR_lt (r := x.2) (n := x.1) hn
theorem textQ_lt {q : RS} (h : (textQ q).2.bad = false) : (textQ q).2.rest.length < q.rest.length := by
  unfold textQ at h ⊢
  simp only at h ⊢
  split at h
  · cases h
  · rename_i hc
    rw [if_neg hc]
    cases hcl : closeR [44] ((numQ 58 0 q).2.rest.drop (numQ 58 0 q).1.toNat) with
    | none => rw [hcl] at h; cases h
    | some r =>
      rw [hcl] at h
      have h1 := numQ_lt (c := 58) (least := 0) (q := q) h
      have h2 := closeR_le hcl
      rw [List.length_drop] at h2
      show r.length < _
      omega
/-- The lists that are read stay short. -/
theorem accI (q : RS) (hs : q.rest.length ≤ 1000000000000) (k : Nat) : (stK oneI (numQ 91 0 q).2 k).2.length ≤ 1000000000001 := by
  cases hb : (numQ 91 0 q).2.bad with
  | false =>
    have h1 := (stK_len (one := oneI) (fun q _ h => numQ_lt h) (fun q h => .inr (oneI_le q)) hb k).1
    have h2 := (numQ_le 91 0 q (Int.le_refl _)).2
    omega
  | true =>
    have := stK_stay (one := oneI) (k := 0) (q := (numQ 91 0 q).2) hb k
    rw [Nat.zero_add] at this
    rw [this]
    exact Nat.zero_le _
theorem accT (q : RS) (hs : q.rest.length ≤ 1000000000000) (k : Nat) : (stK textQ (numQ 91 0 q).2 k).2.length ≤ 1000000000001 := by
  cases hb : (numQ 91 0 q).2.bad with
  | false =>
    have h1 := (stK_len (one := textQ) (fun q _ h => textQ_lt h) (fun q h => .inr (textQ_le q)) hb k).1
    have h2 := (numQ_le 91 0 q (Int.le_refl _)).2
    omega
  | true =>
    have := stK_stay (one := textQ) (k := 0) (q := (numQ 91 0 q).2) hb k
    rw [Nat.zero_add] at this
    rw [this]
    exact Nat.zero_le _
theorem rnums (q : RS) (hs : q.rest.length ≤ 1000000000000) : AIO Tryd.prog 26 [.ptr 0 0] [ro q] (fun bs rs => bs = [ro (itemsQ oneI q).2] ∧ rs = [oneR encI 0 3 1 (itemsQ oneI q).1]) := rnums_ok q hs (accI q hs)
theorem rtexts (q : RS) (hs : q.rest.length ≤ 1000000000000) : AIO Tryd.prog 27 [.ptr 0 0] [ro q] (fun bs rs => bs = [ro (itemsQ textQ q).2] ∧ rs = [oneR encS [] 9 1 (itemsQ textQ q).1]) := rtexts_ok q hs (accT q hs)

end Go.Proofs.YthepodkgphnibaaDoor

namespace Go.Proofs.YthepodkgphnibaaDoor
open Go.Own
set_option maxHeartbeats 1000000
set_option maxRecDepth 100000

structure Val where
  kind : Int
  n : Int
  s : List UInt8
  l : List Int
  t : List (List UInt8)
def encV (v : Val) : AV := .agg [.int .i64 v.kind, .int .i64 v.n, .str v.s, .sl 1 encI 0 v.l, .sl 1 encS [] v.t]
theorem open_ok (s : List UInt8) : APure Tryd.prog 21 [.str s] (fun rs => rs = [.new (.cells 54 [.str s, .bool false])]) := by
  refine apure_of (C := cx 6 [0, 2]) (cxOk _ _) Tryd.func21 rfl (by decide) rfl (by exact Nat.le_of_ble_eq_true rfl) (by decide) ?_
  conv => whnf
  rfl
theorem kind_ok (v : Val) (hk : in64 v.kind) : APureV Tryd.prog 22 [encV v] (.int .i64 (kindZ v.kind)) := by
  obtain ⟨h0, h1⟩ := hk
  unfold kindZ
  refine apure_of (C := cx 12 [0, 1, 2, 3, 8]) (cxOk _ _) Tryd.func22 rfl (by decide) rfl (by exact Nat.le_of_ble_eq_true rfl) (by decide) ?_
  conv => whnf
  repeat (first | (refine And.intro ⟨by omega, by omega⟩ ?_; conv => whnf) | (refine And.intro (by omega) (And.intro rfl ?_); conv => whnf) | (refine And.intro rfl ?_; conv => whnf) | (refine And.intro (fun _ => ⟨by omega, by omega⟩) ?_; conv => whnf) | (refine And.intro (fun _ => by omega) (And.intro rfl ?_); conv => whnf) | (refine And.intro ⟨(by first | omega | (simp; omega)), (by first | omega | (simp; omega))⟩ ?_; conv => whnf) | (refine Exists.intro _ (And.intro rfl (And.intro (by first | omega | (simp; omega)) (And.intro ⟨rfl, rfl, rfl, rfl, rfl⟩ ?_))); conv => whnf) | (refine And.intro ⟨rfl, rfl⟩ (And.intro (by first | omega | (simp; omega)) ?_); conv => whnf) | (refine Exists.intro _ (And.intro rfl ?_); conv => whnf) | (refine And.intro (fun _ => ?_) (fun h => absurd h (by decide)); conv => whnf) | (refine And.intro (fun h => absurd h (by decide)) (fun _ => ?_); conv => whnf) | (refine .quiet (by kernel_rfl) ?_; conv => whnf))
  refine And.intro (by decide) ?_
  conv => whnf
  refine ⟨fun hc => ?_, fun hc => ?_⟩
  · have hc' := of_decide_eq_true hc
    rw [if_pos hc']
    have h5 : -5 < v.kind.tmod 5 := Int.lt_tmod_of_pos v.kind (by decide)
    conv => whnf
    repeat (first | (refine And.intro ⟨by omega, by omega⟩ ?_; conv => whnf) | (refine And.intro (by omega) (And.intro rfl ?_); conv => whnf) | (refine And.intro rfl ?_; conv => whnf) | (refine And.intro (fun _ => ⟨by omega, by omega⟩) ?_; conv => whnf) | (refine And.intro (fun _ => by omega) (And.intro rfl ?_); conv => whnf) | (refine And.intro ⟨(by first | omega | (simp; omega)), (by first | omega | (simp; omega))⟩ ?_; conv => whnf) | (refine Exists.intro _ (And.intro rfl (And.intro (by first | omega | (simp; omega)) (And.intro ⟨rfl, rfl, rfl, rfl, rfl⟩ ?_))); conv => whnf) | (refine And.intro ⟨rfl, rfl⟩ (And.intro (by first | omega | (simp; omega)) ?_); conv => whnf) | (refine Exists.intro _ (And.intro rfl ?_); conv => whnf) | (refine And.intro (fun _ => ?_) (fun h => absurd h (by decide)); conv => whnf) | (refine And.intro (fun h => absurd h (by decide)) (fun _ => ?_); conv => whnf) | (refine .quiet (by kernel_rfl) ?_; conv => whnf))
    rfl
  · rw [if_neg (of_decide_eq_false hc)]
    conv => whnf
    rfl

end Go.Proofs.YthepodkgphnibaaDoor

namespace Go.Proofs.YthepodkgphnibaaDoor
open Go.Own
set_option maxHeartbeats 1000000
set_option maxRecDepth 100000

def writeS (v : Val) : List UInt8 :=
  if kindZ v.kind = 0 then numS (numberZ v.n) else if kindZ v.kind = 1 then intS v.n else if kindZ v.kind = 2 then textS v.s else if kindZ v.kind = 3 then listS intS v.l else listS textS v.t
/-- A value that can be written. -/
structure ValOk (v : Val) : Prop where
  kind : in64 v.kind
  n : in64 v.n
  s : v.s.length ≤ 9223372036854775000
  l : ∀ x ∈ v.l, in64 x
  ln : v.l.length ≤ 9223372036854775807
  lt : (listS intS v.l).length ≤ 140737488355328
  t : ∀ x ∈ v.t, x.length ≤ 9223372036854775000
  tn : v.t.length ≤ 9223372036854775807
  tt : (listS textS v.t).length ≤ 140737488355328
theorem numberZ_in {n : Int} (h : in64 n) : in64 (numberZ n) := by
  unfold in64 at *
  unfold numberZ
  split <;> omega

theorem write_ok (v : Val) (h : ValOk v) : APureV Tryd.prog 30 [encV v] (.str (writeS v)) := by
  have hk := kind_ok v h.kind
  have h0 := number53 v.n h.n
  have h1 := num_ok (numberZ v.n) (numberZ_in h.n)
  have h2 := int_ok v.n h.n
  have h3 := text_ok v.s h.s
  have h4 := nums_ok v.l h.l h.ln h.lt
  have h5 := texts_ok v.t h.t h.tn h.tt
  unfold writeS
  generalize kindZ v.kind = z at *
  refine apure_of (C := cx 29 [0, 1, 2, 4, 5, 11, 16, 21]) (cxOk _ _) Tryd.func30 rfl (by decide) rfl (by exact Nat.le_of_ble_eq_true rfl) (by decide) ?_
  conv => whnf
  repeat (first | (refine And.intro ⟨by omega, by omega⟩ ?_; conv => whnf) | (refine And.intro (by omega) (And.intro rfl ?_); conv => whnf) | (refine And.intro rfl ?_; conv => whnf) | (refine And.intro (fun _ => ⟨by omega, by omega⟩) ?_; conv => whnf) | (refine And.intro (fun _ => by omega) (And.intro rfl ?_); conv => whnf) | (refine And.intro ⟨(by first | omega | (simp; omega)), (by first | omega | (simp; omega))⟩ ?_; conv => whnf) | (refine Exists.intro _ (And.intro rfl (And.intro (by first | omega | (simp; omega)) (And.intro ⟨rfl, rfl, rfl, rfl, rfl⟩ ?_))); conv => whnf) | (refine And.intro ⟨rfl, rfl⟩ (And.intro (by first | omega | (simp; omega)) ?_); conv => whnf) | (refine Exists.intro _ (And.intro rfl ?_); conv => whnf) | (refine And.intro (fun _ => ?_) (fun h => absurd h (by decide)); conv => whnf) | (refine And.intro (fun h => absurd h (by decide)) (fun _ => ?_); conv => whnf) | (refine .quiet (by kernel_rfl) ?_; conv => whnf))
  refine .one _ _ _ (fun _ => hk) (by repeat (first | exact .nil | (apply BorL.cons; first | exact lS rfl | exact lR rfl | exact lM rfl rfl | exact lL rfl | exact lX rfl | exact lN | exact lNl | exact lSm rfl | exact lIm rfl | exact lP rfl | exact lQ rfl | exact lB rfl rfl rfl))) (by first | exact .inl rfl | exact .inr (by repeat (first | exact flats_nil | refine flats_cons (by first | exact flat_val _ rfl | exact flat_row (fun _ => rfl) | exact flat_lst (fun _ => rfl)) ?_))) (by first | exact .inl rfl | exact .inr rfl) ?_
  conv => whnf
  repeat (first | (refine And.intro ⟨by omega, by omega⟩ ?_; conv => whnf) | (refine And.intro (by omega) (And.intro rfl ?_); conv => whnf) | (refine And.intro rfl ?_; conv => whnf) | (refine And.intro (fun _ => ⟨by omega, by omega⟩) ?_; conv => whnf) | (refine And.intro (fun _ => by omega) (And.intro rfl ?_); conv => whnf) | (refine And.intro ⟨(by first | omega | (simp; omega)), (by first | omega | (simp; omega))⟩ ?_; conv => whnf) | (refine Exists.intro _ (And.intro rfl (And.intro (by first | omega | (simp; omega)) (And.intro ⟨rfl, rfl, rfl, rfl, rfl⟩ ?_))); conv => whnf) | (refine And.intro ⟨rfl, rfl⟩ (And.intro (by first | omega | (simp; omega)) ?_); conv => whnf) | (refine Exists.intro _ (And.intro rfl ?_); conv => whnf) | (refine And.intro (fun _ => ?_) (fun h => absurd h (by decide)); conv => whnf) | (refine And.intro (fun h => absurd h (by decide)) (fun _ => ?_); conv => whnf) | (refine .quiet (by kernel_rfl) ?_; conv => whnf))
  refine ⟨fun c0 => ?_, fun c0 => ?_⟩
  · rw [if_pos (of_decide_eq_true c0)]
    conv => whnf
    repeat (first | (refine And.intro ⟨by omega, by omega⟩ ?_; conv => whnf) | (refine And.intro (by omega) (And.intro rfl ?_); conv => whnf) | (refine And.intro rfl ?_; conv => whnf) | (refine And.intro (fun _ => ⟨by omega, by omega⟩) ?_; conv => whnf) | (refine And.intro (fun _ => by omega) (And.intro rfl ?_); conv => whnf) | (refine And.intro ⟨(by first | omega | (simp; omega)), (by first | omega | (simp; omega))⟩ ?_; conv => whnf) | (refine Exists.intro _ (And.intro rfl (And.intro (by first | omega | (simp; omega)) (And.intro ⟨rfl, rfl, rfl, rfl, rfl⟩ ?_))); conv => whnf) | (refine And.intro ⟨rfl, rfl⟩ (And.intro (by first | omega | (simp; omega)) ?_); conv => whnf) | (refine Exists.intro _ (And.intro rfl ?_); conv => whnf) | (refine And.intro (fun _ => ?_) (fun h => absurd h (by decide)); conv => whnf) | (refine And.intro (fun h => absurd h (by decide)) (fun _ => ?_); conv => whnf) | (refine .quiet (by kernel_rfl) ?_; conv => whnf))
    refine .one _ _ _ (fun _ => h0) (by repeat (first | exact .nil | (apply BorL.cons; first | exact lS rfl | exact lR rfl | exact lM rfl rfl | exact lL rfl | exact lX rfl | exact lN | exact lNl | exact lSm rfl | exact lIm rfl | exact lP rfl | exact lQ rfl | exact lB rfl rfl rfl))) (by first | exact .inl rfl | exact .inr (by repeat (first | exact flats_nil | refine flats_cons (by first | exact flat_val _ rfl | exact flat_row (fun _ => rfl) | exact flat_lst (fun _ => rfl)) ?_))) (by first | exact .inl rfl | exact .inr rfl) ?_
    conv => whnf
    repeat (first | (refine And.intro ⟨by omega, by omega⟩ ?_; conv => whnf) | (refine And.intro (by omega) (And.intro rfl ?_); conv => whnf) | (refine And.intro rfl ?_; conv => whnf) | (refine And.intro (fun _ => ⟨by omega, by omega⟩) ?_; conv => whnf) | (refine And.intro (fun _ => by omega) (And.intro rfl ?_); conv => whnf) | (refine And.intro ⟨(by first | omega | (simp; omega)), (by first | omega | (simp; omega))⟩ ?_; conv => whnf) | (refine Exists.intro _ (And.intro rfl (And.intro (by first | omega | (simp; omega)) (And.intro ⟨rfl, rfl, rfl, rfl, rfl⟩ ?_))); conv => whnf) | (refine And.intro ⟨rfl, rfl⟩ (And.intro (by first | omega | (simp; omega)) ?_); conv => whnf) | (refine Exists.intro _ (And.intro rfl ?_); conv => whnf) | (refine And.intro (fun _ => ?_) (fun h => absurd h (by decide)); conv => whnf) | (refine And.intro (fun h => absurd h (by decide)) (fun _ => ?_); conv => whnf) | (refine .quiet (by kernel_rfl) ?_; conv => whnf))
    refine .one _ _ _ (fun _ => h1) (by repeat (first | exact .nil | (apply BorL.cons; first | exact lS rfl | exact lR rfl | exact lM rfl rfl | exact lL rfl | exact lX rfl | exact lN | exact lNl | exact lSm rfl | exact lIm rfl | exact lP rfl | exact lQ rfl | exact lB rfl rfl rfl))) (by first | exact .inl rfl | exact .inr (by repeat (first | exact flats_nil | refine flats_cons (by first | exact flat_val _ rfl | exact flat_row (fun _ => rfl) | exact flat_lst (fun _ => rfl)) ?_))) (by first | exact .inl rfl | exact .inr rfl) ?_
    conv => whnf
    repeat (first | (refine And.intro ⟨by omega, by omega⟩ ?_; conv => whnf) | (refine And.intro (by omega) (And.intro rfl ?_); conv => whnf) | (refine And.intro rfl ?_; conv => whnf) | (refine And.intro (fun _ => ⟨by omega, by omega⟩) ?_; conv => whnf) | (refine And.intro (fun _ => by omega) (And.intro rfl ?_); conv => whnf) | (refine And.intro ⟨(by first | omega | (simp; omega)), (by first | omega | (simp; omega))⟩ ?_; conv => whnf) | (refine Exists.intro _ (And.intro rfl (And.intro (by first | omega | (simp; omega)) (And.intro ⟨rfl, rfl, rfl, rfl, rfl⟩ ?_))); conv => whnf) | (refine And.intro ⟨rfl, rfl⟩ (And.intro (by first | omega | (simp; omega)) ?_); conv => whnf) | (refine Exists.intro _ (And.intro rfl ?_); conv => whnf) | (refine And.intro (fun _ => ?_) (fun h => absurd h (by decide)); conv => whnf) | (refine And.intro (fun h => absurd h (by decide)) (fun _ => ?_); conv => whnf) | (refine .quiet (by kernel_rfl) ?_; conv => whnf))
    rfl
  rw [if_neg (of_decide_eq_false c0)]
  conv => whnf
  repeat (first | (refine And.intro ⟨by omega, by omega⟩ ?_; conv => whnf) | (refine And.intro (by omega) (And.intro rfl ?_); conv => whnf) | (refine And.intro rfl ?_; conv => whnf) | (refine And.intro (fun _ => ⟨by omega, by omega⟩) ?_; conv => whnf) | (refine And.intro (fun _ => by omega) (And.intro rfl ?_); conv => whnf) | (refine And.intro ⟨(by first | omega | (simp; omega)), (by first | omega | (simp; omega))⟩ ?_; conv => whnf) | (refine Exists.intro _ (And.intro rfl (And.intro (by first | omega | (simp; omega)) (And.intro ⟨rfl, rfl, rfl, rfl, rfl⟩ ?_))); conv => whnf) | (refine And.intro ⟨rfl, rfl⟩ (And.intro (by first | omega | (simp; omega)) ?_); conv => whnf) | (refine Exists.intro _ (And.intro rfl ?_); conv => whnf) | (refine And.intro (fun _ => ?_) (fun h => absurd h (by decide)); conv => whnf) | (refine And.intro (fun h => absurd h (by decide)) (fun _ => ?_); conv => whnf) | (refine .quiet (by kernel_rfl) ?_; conv => whnf))
  refine ⟨fun c1 => ?_, fun c1 => ?_⟩
  · rw [if_pos (of_decide_eq_true c1)]
    conv => whnf
    repeat (first | (refine And.intro ⟨by omega, by omega⟩ ?_; conv => whnf) | (refine And.intro (by omega) (And.intro rfl ?_); conv => whnf) | (refine And.intro rfl ?_; conv => whnf) | (refine And.intro (fun _ => ⟨by omega, by omega⟩) ?_; conv => whnf) | (refine And.intro (fun _ => by omega) (And.intro rfl ?_); conv => whnf) | (refine And.intro ⟨(by first | omega | (simp; omega)), (by first | omega | (simp; omega))⟩ ?_; conv => whnf) | (refine Exists.intro _ (And.intro rfl (And.intro (by first | omega | (simp; omega)) (And.intro ⟨rfl, rfl, rfl, rfl, rfl⟩ ?_))); conv => whnf) | (refine And.intro ⟨rfl, rfl⟩ (And.intro (by first | omega | (simp; omega)) ?_); conv => whnf) | (refine Exists.intro _ (And.intro rfl ?_); conv => whnf) | (refine And.intro (fun _ => ?_) (fun h => absurd h (by decide)); conv => whnf) | (refine And.intro (fun h => absurd h (by decide)) (fun _ => ?_); conv => whnf) | (refine .quiet (by kernel_rfl) ?_; conv => whnf))
    refine .one _ _ _ (fun _ => h2) (by repeat (first | exact .nil | (apply BorL.cons; first | exact lS rfl | exact lR rfl | exact lM rfl rfl | exact lL rfl | exact lX rfl | exact lN | exact lNl | exact lSm rfl | exact lIm rfl | exact lP rfl | exact lQ rfl | exact lB rfl rfl rfl))) (by first | exact .inl rfl | exact .inr (by repeat (first | exact flats_nil | refine flats_cons (by first | exact flat_val _ rfl | exact flat_row (fun _ => rfl) | exact flat_lst (fun _ => rfl)) ?_))) (by first | exact .inl rfl | exact .inr rfl) ?_
    conv => whnf
    repeat (first | (refine And.intro ⟨by omega, by omega⟩ ?_; conv => whnf) | (refine And.intro (by omega) (And.intro rfl ?_); conv => whnf) | (refine And.intro rfl ?_; conv => whnf) | (refine And.intro (fun _ => ⟨by omega, by omega⟩) ?_; conv => whnf) | (refine And.intro (fun _ => by omega) (And.intro rfl ?_); conv => whnf) | (refine And.intro ⟨(by first | omega | (simp; omega)), (by first | omega | (simp; omega))⟩ ?_; conv => whnf) | (refine Exists.intro _ (And.intro rfl (And.intro (by first | omega | (simp; omega)) (And.intro ⟨rfl, rfl, rfl, rfl, rfl⟩ ?_))); conv => whnf) | (refine And.intro ⟨rfl, rfl⟩ (And.intro (by first | omega | (simp; omega)) ?_); conv => whnf) | (refine Exists.intro _ (And.intro rfl ?_); conv => whnf) | (refine And.intro (fun _ => ?_) (fun h => absurd h (by decide)); conv => whnf) | (refine And.intro (fun h => absurd h (by decide)) (fun _ => ?_); conv => whnf) | (refine .quiet (by kernel_rfl) ?_; conv => whnf))
    rfl
  rw [if_neg (of_decide_eq_false c1)]
  conv => whnf
  repeat (first | (refine And.intro ⟨by omega, by omega⟩ ?_; conv => whnf) | (refine And.intro (by omega) (And.intro rfl ?_); conv => whnf) | (refine And.intro rfl ?_; conv => whnf) | (refine And.intro (fun _ => ⟨by omega, by omega⟩) ?_; conv => whnf) | (refine And.intro (fun _ => by omega) (And.intro rfl ?_); conv => whnf) | (refine And.intro ⟨(by first | omega | (simp; omega)), (by first | omega | (simp; omega))⟩ ?_; conv => whnf) | (refine Exists.intro _ (And.intro rfl (And.intro (by first | omega | (simp; omega)) (And.intro ⟨rfl, rfl, rfl, rfl, rfl⟩ ?_))); conv => whnf) | (refine And.intro ⟨rfl, rfl⟩ (And.intro (by first | omega | (simp; omega)) ?_); conv => whnf) | (refine Exists.intro _ (And.intro rfl ?_); conv => whnf) | (refine And.intro (fun _ => ?_) (fun h => absurd h (by decide)); conv => whnf) | (refine And.intro (fun h => absurd h (by decide)) (fun _ => ?_); conv => whnf) | (refine .quiet (by kernel_rfl) ?_; conv => whnf))
  refine ⟨fun c2 => ?_, fun c2 => ?_⟩
  · rw [if_pos (of_decide_eq_true c2)]
    conv => whnf
    repeat (first | (refine And.intro ⟨by omega, by omega⟩ ?_; conv => whnf) | (refine And.intro (by omega) (And.intro rfl ?_); conv => whnf) | (refine And.intro rfl ?_; conv => whnf) | (refine And.intro (fun _ => ⟨by omega, by omega⟩) ?_; conv => whnf) | (refine And.intro (fun _ => by omega) (And.intro rfl ?_); conv => whnf) | (refine And.intro ⟨(by first | omega | (simp; omega)), (by first | omega | (simp; omega))⟩ ?_; conv => whnf) | (refine Exists.intro _ (And.intro rfl (And.intro (by first | omega | (simp; omega)) (And.intro ⟨rfl, rfl, rfl, rfl, rfl⟩ ?_))); conv => whnf) | (refine And.intro ⟨rfl, rfl⟩ (And.intro (by first | omega | (simp; omega)) ?_); conv => whnf) | (refine Exists.intro _ (And.intro rfl ?_); conv => whnf) | (refine And.intro (fun _ => ?_) (fun h => absurd h (by decide)); conv => whnf) | (refine And.intro (fun h => absurd h (by decide)) (fun _ => ?_); conv => whnf) | (refine .quiet (by kernel_rfl) ?_; conv => whnf))
    refine .one _ _ _ (fun _ => h3) (by repeat (first | exact .nil | (apply BorL.cons; first | exact lS rfl | exact lR rfl | exact lM rfl rfl | exact lL rfl | exact lX rfl | exact lN | exact lNl | exact lSm rfl | exact lIm rfl | exact lP rfl | exact lQ rfl | exact lB rfl rfl rfl))) (by first | exact .inl rfl | exact .inr (by repeat (first | exact flats_nil | refine flats_cons (by first | exact flat_val _ rfl | exact flat_row (fun _ => rfl) | exact flat_lst (fun _ => rfl)) ?_))) (by first | exact .inl rfl | exact .inr rfl) ?_
    conv => whnf
    repeat (first | (refine And.intro ⟨by omega, by omega⟩ ?_; conv => whnf) | (refine And.intro (by omega) (And.intro rfl ?_); conv => whnf) | (refine And.intro rfl ?_; conv => whnf) | (refine And.intro (fun _ => ⟨by omega, by omega⟩) ?_; conv => whnf) | (refine And.intro (fun _ => by omega) (And.intro rfl ?_); conv => whnf) | (refine And.intro ⟨(by first | omega | (simp; omega)), (by first | omega | (simp; omega))⟩ ?_; conv => whnf) | (refine Exists.intro _ (And.intro rfl (And.intro (by first | omega | (simp; omega)) (And.intro ⟨rfl, rfl, rfl, rfl, rfl⟩ ?_))); conv => whnf) | (refine And.intro ⟨rfl, rfl⟩ (And.intro (by first | omega | (simp; omega)) ?_); conv => whnf) | (refine Exists.intro _ (And.intro rfl ?_); conv => whnf) | (refine And.intro (fun _ => ?_) (fun h => absurd h (by decide)); conv => whnf) | (refine And.intro (fun h => absurd h (by decide)) (fun _ => ?_); conv => whnf) | (refine .quiet (by kernel_rfl) ?_; conv => whnf))
    rfl
  rw [if_neg (of_decide_eq_false c2)]
  conv => whnf
  repeat (first | (refine And.intro ⟨by omega, by omega⟩ ?_; conv => whnf) | (refine And.intro (by omega) (And.intro rfl ?_); conv => whnf) | (refine And.intro rfl ?_; conv => whnf) | (refine And.intro (fun _ => ⟨by omega, by omega⟩) ?_; conv => whnf) | (refine And.intro (fun _ => by omega) (And.intro rfl ?_); conv => whnf) | (refine And.intro ⟨(by first | omega | (simp; omega)), (by first | omega | (simp; omega))⟩ ?_; conv => whnf) | (refine Exists.intro _ (And.intro rfl (And.intro (by first | omega | (simp; omega)) (And.intro ⟨rfl, rfl, rfl, rfl, rfl⟩ ?_))); conv => whnf) | (refine And.intro ⟨rfl, rfl⟩ (And.intro (by first | omega | (simp; omega)) ?_); conv => whnf) | (refine Exists.intro _ (And.intro rfl ?_); conv => whnf) | (refine And.intro (fun _ => ?_) (fun h => absurd h (by decide)); conv => whnf) | (refine And.intro (fun h => absurd h (by decide)) (fun _ => ?_); conv => whnf) | (refine .quiet (by kernel_rfl) ?_; conv => whnf))
  refine ⟨fun c3 => ?_, fun c3 => ?_⟩
  · rw [if_pos (of_decide_eq_true c3)]
    conv => whnf
    repeat (first | (refine And.intro ⟨by omega, by omega⟩ ?_; conv => whnf) | (refine And.intro (by omega) (And.intro rfl ?_); conv => whnf) | (refine And.intro rfl ?_; conv => whnf) | (refine And.intro (fun _ => ⟨by omega, by omega⟩) ?_; conv => whnf) | (refine And.intro (fun _ => by omega) (And.intro rfl ?_); conv => whnf) | (refine And.intro ⟨(by first | omega | (simp; omega)), (by first | omega | (simp; omega))⟩ ?_; conv => whnf) | (refine Exists.intro _ (And.intro rfl (And.intro (by first | omega | (simp; omega)) (And.intro ⟨rfl, rfl, rfl, rfl, rfl⟩ ?_))); conv => whnf) | (refine And.intro ⟨rfl, rfl⟩ (And.intro (by first | omega | (simp; omega)) ?_); conv => whnf) | (refine Exists.intro _ (And.intro rfl ?_); conv => whnf) | (refine And.intro (fun _ => ?_) (fun h => absurd h (by decide)); conv => whnf) | (refine And.intro (fun h => absurd h (by decide)) (fun _ => ?_); conv => whnf) | (refine .quiet (by kernel_rfl) ?_; conv => whnf))
    refine .one _ _ _ (fun _ => h4) (by repeat (first | exact .nil | (apply BorL.cons; first | exact lS rfl | exact lR rfl | exact lM rfl rfl | exact lL rfl | exact lX rfl | exact lN | exact lNl | exact lSm rfl | exact lIm rfl | exact lP rfl | exact lQ rfl | exact lB rfl rfl rfl))) (by first | exact .inl rfl | exact .inr (by repeat (first | exact flats_nil | refine flats_cons (by first | exact flat_val _ rfl | exact flat_row (fun _ => rfl) | exact flat_lst (fun _ => rfl)) ?_))) (by first | exact .inl rfl | exact .inr rfl) ?_
    conv => whnf
    repeat (first | (refine And.intro ⟨by omega, by omega⟩ ?_; conv => whnf) | (refine And.intro (by omega) (And.intro rfl ?_); conv => whnf) | (refine And.intro rfl ?_; conv => whnf) | (refine And.intro (fun _ => ⟨by omega, by omega⟩) ?_; conv => whnf) | (refine And.intro (fun _ => by omega) (And.intro rfl ?_); conv => whnf) | (refine And.intro ⟨(by first | omega | (simp; omega)), (by first | omega | (simp; omega))⟩ ?_; conv => whnf) | (refine Exists.intro _ (And.intro rfl (And.intro (by first | omega | (simp; omega)) (And.intro ⟨rfl, rfl, rfl, rfl, rfl⟩ ?_))); conv => whnf) | (refine And.intro ⟨rfl, rfl⟩ (And.intro (by first | omega | (simp; omega)) ?_); conv => whnf) | (refine Exists.intro _ (And.intro rfl ?_); conv => whnf) | (refine And.intro (fun _ => ?_) (fun h => absurd h (by decide)); conv => whnf) | (refine And.intro (fun h => absurd h (by decide)) (fun _ => ?_); conv => whnf) | (refine .quiet (by kernel_rfl) ?_; conv => whnf))
    rfl
  rw [if_neg (of_decide_eq_false c3)]
  conv => whnf
  repeat (first | (refine And.intro ⟨by omega, by omega⟩ ?_; conv => whnf) | (refine And.intro (by omega) (And.intro rfl ?_); conv => whnf) | (refine And.intro rfl ?_; conv => whnf) | (refine And.intro (fun _ => ⟨by omega, by omega⟩) ?_; conv => whnf) | (refine And.intro (fun _ => by omega) (And.intro rfl ?_); conv => whnf) | (refine And.intro ⟨(by first | omega | (simp; omega)), (by first | omega | (simp; omega))⟩ ?_; conv => whnf) | (refine Exists.intro _ (And.intro rfl (And.intro (by first | omega | (simp; omega)) (And.intro ⟨rfl, rfl, rfl, rfl, rfl⟩ ?_))); conv => whnf) | (refine And.intro ⟨rfl, rfl⟩ (And.intro (by first | omega | (simp; omega)) ?_); conv => whnf) | (refine Exists.intro _ (And.intro rfl ?_); conv => whnf) | (refine And.intro (fun _ => ?_) (fun h => absurd h (by decide)); conv => whnf) | (refine And.intro (fun h => absurd h (by decide)) (fun _ => ?_); conv => whnf) | (refine .quiet (by kernel_rfl) ?_; conv => whnf))
  refine .one _ _ _ (fun _ => h5) (by repeat (first | exact .nil | (apply BorL.cons; first | exact lS rfl | exact lR rfl | exact lM rfl rfl | exact lL rfl | exact lX rfl | exact lN | exact lNl | exact lSm rfl | exact lIm rfl | exact lP rfl | exact lQ rfl | exact lB rfl rfl rfl))) (by first | exact .inl rfl | exact .inr (by repeat (first | exact flats_nil | refine flats_cons (by first | exact flat_val _ rfl | exact flat_row (fun _ => rfl) | exact flat_lst (fun _ => rfl)) ?_))) (by first | exact .inl rfl | exact .inr rfl) ?_
  conv => whnf
  repeat (first | (refine And.intro ⟨by omega, by omega⟩ ?_; conv => whnf) | (refine And.intro (by omega) (And.intro rfl ?_); conv => whnf) | (refine And.intro rfl ?_; conv => whnf) | (refine And.intro (fun _ => ⟨by omega, by omega⟩) ?_; conv => whnf) | (refine And.intro (fun _ => by omega) (And.intro rfl ?_); conv => whnf) | (refine And.intro ⟨(by first | omega | (simp; omega)), (by first | omega | (simp; omega))⟩ ?_; conv => whnf) | (refine Exists.intro _ (And.intro rfl (And.intro (by first | omega | (simp; omega)) (And.intro ⟨rfl, rfl, rfl, rfl, rfl⟩ ?_))); conv => whnf) | (refine And.intro ⟨rfl, rfl⟩ (And.intro (by first | omega | (simp; omega)) ?_); conv => whnf) | (refine Exists.intro _ (And.intro rfl ?_); conv => whnf) | (refine And.intro (fun _ => ?_) (fun h => absurd h (by decide)); conv => whnf) | (refine And.intro (fun h => absurd h (by decide)) (fun _ => ?_); conv => whnf) | (refine .quiet (by kernel_rfl) ?_; conv => whnf))
  rfl

end Go.Proofs.YthepodkgphnibaaDoor

namespace Go.Proofs.YthepodkgphnibaaDoor
open Go.Own
set_option maxHeartbeats 1000000
set_option maxRecDepth 100000

def listOf {T : Type} (o : Option (List T)) : List T := o.getD []
def equalQ (v : Val) (q : RS) : Bool × RS :=
  if kindZ v.kind = 0 then (decide ((numQ 59 0 q).1 = numberZ v.n), (numQ 59 0 q).2)
  else if kindZ v.kind = 1 then (decide ((oneI q).1 = v.n), (oneI q).2)
  else if kindZ v.kind = 2 then (decide ((textQ q).1 = v.s), (textQ q).2)
  else if kindZ v.kind = 3 then (decide (listOf (itemsQ oneI q).1 = v.l), (itemsQ oneI q).2)
  else (decide (listOf (itemsQ textQ q).1 = v.t), (itemsQ textQ q).2)

theorem items_len {T : Type} {one : RS → T × RS} {q : RS} (hacc : ∀ k, (stK one (numQ 91 0 q).2 k).2.length ≤ 1000000000001) {l : List T} (h : (itemsQ one q).1 = some l) : l.length ≤ 1000000000001 := by
  unfold itemsQ at h
  simp only at h
  split at h
  · simp only at h
    split at h
    · cases h
    · cases h
      exact hacc _
  · cases h

theorem equal_ok (v : Val) (q : RS) (h : ValOk v) (hs : q.rest.length ≤ 1000000000000) : AIO Tryd.prog 31 [.ptr 0 0, encV v] [ro q] (fun bs rs => bs = [ro (equalQ v q).2] ∧ rs = [.val (.bool (equalQ v q).1)]) := by
  have hk := kind_ok v h.kind
  have h0 := rnum_ok q (by omega)
  have h0' := number53 v.n h.n
  have h1 := rint_ok q (by omega)
  have h2 := rtext_ok q (by omega)
  unfold equalQ
  generalize kindZ v.kind = z at *
  refine aio_of (C := cxP 1 41 [0, 1, 3, 4, 6, 7, 15, 22, 29]) (cxPOk _ _ _) Tryd.func31 rfl (by decide) rfl (by exact Nat.le_of_ble_eq_true rfl) (by decide) rfl rfl ?_
  conv => whnf
  repeat (first | (refine And.intro ⟨by omega, by omega⟩ ?_; conv => whnf) | (refine And.intro (by omega) (And.intro rfl ?_); conv => whnf) | (refine And.intro rfl ?_; conv => whnf) | (refine And.intro (fun _ => ⟨by omega, by omega⟩) ?_; conv => whnf) | (refine And.intro (fun _ => by omega) (And.intro rfl ?_); conv => whnf) | (refine And.intro ⟨(by first | omega | (simp; omega)), (by first | omega | (simp; omega))⟩ ?_; conv => whnf) | (refine Exists.intro _ (And.intro rfl (And.intro (by first | omega | (simp; omega)) (And.intro ⟨rfl, rfl, rfl, rfl, rfl⟩ ?_))); conv => whnf) | (refine And.intro ⟨rfl, rfl⟩ (And.intro (by first | omega | (simp; omega)) ?_); conv => whnf) | (refine Exists.intro _ (And.intro rfl ?_); conv => whnf) | (refine And.intro (fun _ => ?_) (fun h => absurd h (by decide)); conv => whnf) | (refine And.intro (fun h => absurd h (by decide)) (fun _ => ?_); conv => whnf) | (refine .quiet (by kernel_rfl) ?_; conv => whnf))
  refine .one _ _ _ (fun _ => hk) (by repeat (first | exact .nil | (apply BorL.cons; first | exact lS rfl | exact lR rfl | exact lM rfl rfl | exact lL rfl | exact lX rfl | exact lN | exact lNl | exact lSm rfl | exact lIm rfl | exact lP rfl | exact lQ rfl | exact lB rfl rfl rfl))) (by first | exact .inl rfl | exact .inr (by repeat (first | exact flats_nil | refine flats_cons (by first | exact flat_val _ rfl | exact flat_row (fun _ => rfl) | exact flat_lst (fun _ => rfl)) ?_))) (by first | exact .inl rfl | exact .inr rfl) ?_
  conv => whnf
  repeat (first | (refine And.intro ⟨by omega, by omega⟩ ?_; conv => whnf) | (refine And.intro (by omega) (And.intro rfl ?_); conv => whnf) | (refine And.intro rfl ?_; conv => whnf) | (refine And.intro (fun _ => ⟨by omega, by omega⟩) ?_; conv => whnf) | (refine And.intro (fun _ => by omega) (And.intro rfl ?_); conv => whnf) | (refine And.intro ⟨(by first | omega | (simp; omega)), (by first | omega | (simp; omega))⟩ ?_; conv => whnf) | (refine Exists.intro _ (And.intro rfl (And.intro (by first | omega | (simp; omega)) (And.intro ⟨rfl, rfl, rfl, rfl, rfl⟩ ?_))); conv => whnf) | (refine And.intro ⟨rfl, rfl⟩ (And.intro (by first | omega | (simp; omega)) ?_); conv => whnf) | (refine Exists.intro _ (And.intro rfl ?_); conv => whnf) | (refine And.intro (fun _ => ?_) (fun h => absurd h (by decide)); conv => whnf) | (refine And.intro (fun h => absurd h (by decide)) (fun _ => ?_); conv => whnf) | (refine .quiet (by kernel_rfl) ?_; conv => whnf))
  refine ⟨fun c0 => ?_, fun c0 => ?_⟩
  · rw [if_pos (of_decide_eq_true c0)]
    generalize numQ 59 0 q = x at *
    conv => whnf
    refine .eff (by first | exact cxOk _ _ | exact cxPOk _ _ _) ?_
    conv => whnf
    refine .raw ([0] ++ []) _ rfl (fun _ => ⟨⟨_, [0] ++ [], _, _⟩, fun r' => Iff.rfl, rfl⟩) (callio_one (h0) [0] [] rfl rfl ⟨rfl, trivial⟩ (by exact BorL.cons (BorIO.ptr _ _ _ rfl) BorL.nil) rfl (.inl rfl)) ?_
    rintro _ rfl
    refine ⟨tn_ge _ _, ?_⟩
    conv => whnf
    repeat (first | (refine And.intro ⟨by omega, by omega⟩ ?_; conv => whnf) | (refine And.intro (by omega) (And.intro rfl ?_); conv => whnf) | (refine And.intro rfl ?_; conv => whnf) | (refine And.intro (fun _ => ⟨by omega, by omega⟩) ?_; conv => whnf) | (refine And.intro (fun _ => by omega) (And.intro rfl ?_); conv => whnf) | (refine And.intro ⟨(by first | omega | (simp; omega)), (by first | omega | (simp; omega))⟩ ?_; conv => whnf) | (refine Exists.intro _ (And.intro rfl (And.intro (by first | omega | (simp; omega)) (And.intro ⟨rfl, rfl, rfl, rfl, rfl⟩ ?_))); conv => whnf) | (refine And.intro ⟨rfl, rfl⟩ (And.intro (by first | omega | (simp; omega)) ?_); conv => whnf) | (refine Exists.intro _ (And.intro rfl ?_); conv => whnf) | (refine And.intro (fun _ => ?_) (fun h => absurd h (by decide)); conv => whnf) | (refine And.intro (fun h => absurd h (by decide)) (fun _ => ?_); conv => whnf) | (refine .eff (by first | exact cxOk _ _ | exact cxPOk _ _ _) ?_; conv => whnf))
    refine .one _ _ _ (fun _ => h0') (by repeat (first | exact .nil | (apply BorL.cons; first | exact lS rfl | exact lR rfl | exact lM rfl rfl | exact lL rfl | exact lX rfl | exact lN | exact lNl | exact lSm rfl | exact lIm rfl | exact lP rfl | exact lQ rfl | exact lB rfl rfl rfl))) (by first | exact .inl rfl | exact .inr (by repeat (first | exact flats_nil | refine flats_cons (by first | exact flat_val _ rfl | exact flat_row (fun _ => rfl) | exact flat_lst (fun _ => rfl)) ?_))) (by first | exact .inl rfl | exact .inr rfl) ?_
    conv => whnf
    repeat (first | (refine And.intro ⟨by omega, by omega⟩ ?_; conv => whnf) | (refine And.intro (by omega) (And.intro rfl ?_); conv => whnf) | (refine And.intro rfl ?_; conv => whnf) | (refine And.intro (fun _ => ⟨by omega, by omega⟩) ?_; conv => whnf) | (refine And.intro (fun _ => by omega) (And.intro rfl ?_); conv => whnf) | (refine And.intro ⟨(by first | omega | (simp; omega)), (by first | omega | (simp; omega))⟩ ?_; conv => whnf) | (refine Exists.intro _ (And.intro rfl (And.intro (by first | omega | (simp; omega)) (And.intro ⟨rfl, rfl, rfl, rfl, rfl⟩ ?_))); conv => whnf) | (refine And.intro ⟨rfl, rfl⟩ (And.intro (by first | omega | (simp; omega)) ?_); conv => whnf) | (refine Exists.intro _ (And.intro rfl ?_); conv => whnf) | (refine And.intro (fun _ => ?_) (fun h => absurd h (by decide)); conv => whnf) | (refine And.intro (fun h => absurd h (by decide)) (fun _ => ?_); conv => whnf) | (refine .eff (by first | exact cxOk _ _ | exact cxPOk _ _ _) ?_; conv => whnf))
    refine ⟨by kernel_rfl, ?_⟩
    conv => whnf
    exact ⟨rfl, rfl⟩
  rw [if_neg (of_decide_eq_false c0)]
  conv => whnf
  repeat (first | (refine And.intro ⟨by omega, by omega⟩ ?_; conv => whnf) | (refine And.intro (by omega) (And.intro rfl ?_); conv => whnf) | (refine And.intro rfl ?_; conv => whnf) | (refine And.intro (fun _ => ⟨by omega, by omega⟩) ?_; conv => whnf) | (refine And.intro (fun _ => by omega) (And.intro rfl ?_); conv => whnf) | (refine And.intro ⟨(by first | omega | (simp; omega)), (by first | omega | (simp; omega))⟩ ?_; conv => whnf) | (refine Exists.intro _ (And.intro rfl (And.intro (by first | omega | (simp; omega)) (And.intro ⟨rfl, rfl, rfl, rfl, rfl⟩ ?_))); conv => whnf) | (refine And.intro ⟨rfl, rfl⟩ (And.intro (by first | omega | (simp; omega)) ?_); conv => whnf) | (refine Exists.intro _ (And.intro rfl ?_); conv => whnf) | (refine And.intro (fun _ => ?_) (fun h => absurd h (by decide)); conv => whnf) | (refine And.intro (fun h => absurd h (by decide)) (fun _ => ?_); conv => whnf) | (refine .quiet (by kernel_rfl) ?_; conv => whnf))
  refine ⟨fun c1 => ?_, fun c1 => ?_⟩
  · rw [if_pos (of_decide_eq_true c1)]
    rw [show oneI q = numQ 59 (-9223372036854775808) q from rfl]
    generalize numQ 59 (-9223372036854775808) q = x at *
    conv => whnf
    refine .eff (by first | exact cxOk _ _ | exact cxPOk _ _ _) ?_
    conv => whnf
    refine .raw ([0] ++ []) _ rfl (fun _ => ⟨⟨_, [0] ++ [], _, _⟩, fun r' => Iff.rfl, rfl⟩) (callio_one (h1) [0] [] rfl rfl ⟨rfl, trivial⟩ (by exact BorL.cons (BorIO.ptr _ _ _ rfl) BorL.nil) rfl (.inl rfl)) ?_
    rintro _ rfl
    refine ⟨tn_ge _ _, ?_⟩
    conv => whnf
    repeat (first | (refine And.intro ⟨by omega, by omega⟩ ?_; conv => whnf) | (refine And.intro (by omega) (And.intro rfl ?_); conv => whnf) | (refine And.intro rfl ?_; conv => whnf) | (refine And.intro (fun _ => ⟨by omega, by omega⟩) ?_; conv => whnf) | (refine And.intro (fun _ => by omega) (And.intro rfl ?_); conv => whnf) | (refine And.intro ⟨(by first | omega | (simp; omega)), (by first | omega | (simp; omega))⟩ ?_; conv => whnf) | (refine Exists.intro _ (And.intro rfl (And.intro (by first | omega | (simp; omega)) (And.intro ⟨rfl, rfl, rfl, rfl, rfl⟩ ?_))); conv => whnf) | (refine And.intro ⟨rfl, rfl⟩ (And.intro (by first | omega | (simp; omega)) ?_); conv => whnf) | (refine Exists.intro _ (And.intro rfl ?_); conv => whnf) | (refine And.intro (fun _ => ?_) (fun h => absurd h (by decide)); conv => whnf) | (refine And.intro (fun h => absurd h (by decide)) (fun _ => ?_); conv => whnf) | (refine .eff (by first | exact cxOk _ _ | exact cxPOk _ _ _) ?_; conv => whnf))
    refine ⟨by kernel_rfl, ?_⟩
    conv => whnf
    exact ⟨rfl, rfl⟩
  rw [if_neg (of_decide_eq_false c1)]
  conv => whnf
  repeat (first | (refine And.intro ⟨by omega, by omega⟩ ?_; conv => whnf) | (refine And.intro (by omega) (And.intro rfl ?_); conv => whnf) | (refine And.intro rfl ?_; conv => whnf) | (refine And.intro (fun _ => ⟨by omega, by omega⟩) ?_; conv => whnf) | (refine And.intro (fun _ => by omega) (And.intro rfl ?_); conv => whnf) | (refine And.intro ⟨(by first | omega | (simp; omega)), (by first | omega | (simp; omega))⟩ ?_; conv => whnf) | (refine Exists.intro _ (And.intro rfl (And.intro (by first | omega | (simp; omega)) (And.intro ⟨rfl, rfl, rfl, rfl, rfl⟩ ?_))); conv => whnf) | (refine And.intro ⟨rfl, rfl⟩ (And.intro (by first | omega | (simp; omega)) ?_); conv => whnf) | (refine Exists.intro _ (And.intro rfl ?_); conv => whnf) | (refine And.intro (fun _ => ?_) (fun h => absurd h (by decide)); conv => whnf) | (refine And.intro (fun h => absurd h (by decide)) (fun _ => ?_); conv => whnf) | (refine .quiet (by kernel_rfl) ?_; conv => whnf))
  refine ⟨fun c2 => ?_, fun c2 => ?_⟩
  · rw [if_pos (of_decide_eq_true c2)]
    generalize textQ q = x at *
    conv => whnf
    refine .eff (by first | exact cxOk _ _ | exact cxPOk _ _ _) ?_
    conv => whnf
    refine .raw ([0] ++ []) _ rfl (fun _ => ⟨⟨_, [0] ++ [], _, _⟩, fun r' => Iff.rfl, rfl⟩) (callio_one (h2) [0] [] rfl rfl ⟨rfl, trivial⟩ (by exact BorL.cons (BorIO.ptr _ _ _ rfl) BorL.nil) rfl (.inl rfl)) ?_
    rintro _ rfl
    refine ⟨tn_ge _ _, ?_⟩
    conv => whnf
    repeat (first | (refine And.intro ⟨by omega, by omega⟩ ?_; conv => whnf) | (refine And.intro (by omega) (And.intro rfl ?_); conv => whnf) | (refine And.intro rfl ?_; conv => whnf) | (refine And.intro (fun _ => ⟨by omega, by omega⟩) ?_; conv => whnf) | (refine And.intro (fun _ => by omega) (And.intro rfl ?_); conv => whnf) | (refine And.intro ⟨(by first | omega | (simp; omega)), (by first | omega | (simp; omega))⟩ ?_; conv => whnf) | (refine Exists.intro _ (And.intro rfl (And.intro (by first | omega | (simp; omega)) (And.intro ⟨rfl, rfl, rfl, rfl, rfl⟩ ?_))); conv => whnf) | (refine And.intro ⟨rfl, rfl⟩ (And.intro (by first | omega | (simp; omega)) ?_); conv => whnf) | (refine Exists.intro _ (And.intro rfl ?_); conv => whnf) | (refine And.intro (fun _ => ?_) (fun h => absurd h (by decide)); conv => whnf) | (refine And.intro (fun h => absurd h (by decide)) (fun _ => ?_); conv => whnf) | (refine .eff (by first | exact cxOk _ _ | exact cxPOk _ _ _) ?_; conv => whnf))
    refine ⟨by kernel_rfl, ?_⟩
    conv => whnf
    exact ⟨rfl, rfl⟩
  rw [if_neg (of_decide_eq_false c2)]
  conv => whnf
  repeat (first | (refine And.intro ⟨by omega, by omega⟩ ?_; conv => whnf) | (refine And.intro (by omega) (And.intro rfl ?_); conv => whnf) | (refine And.intro rfl ?_; conv => whnf) | (refine And.intro (fun _ => ⟨by omega, by omega⟩) ?_; conv => whnf) | (refine And.intro (fun _ => by omega) (And.intro rfl ?_); conv => whnf) | (refine And.intro ⟨(by first | omega | (simp; omega)), (by first | omega | (simp; omega))⟩ ?_; conv => whnf) | (refine Exists.intro _ (And.intro rfl (And.intro (by first | omega | (simp; omega)) (And.intro ⟨rfl, rfl, rfl, rfl, rfl⟩ ?_))); conv => whnf) | (refine And.intro ⟨rfl, rfl⟩ (And.intro (by first | omega | (simp; omega)) ?_); conv => whnf) | (refine Exists.intro _ (And.intro rfl ?_); conv => whnf) | (refine And.intro (fun _ => ?_) (fun h => absurd h (by decide)); conv => whnf) | (refine And.intro (fun h => absurd h (by decide)) (fun _ => ?_); conv => whnf) | (refine .quiet (by kernel_rfl) ?_; conv => whnf))
  refine ⟨fun c3 => ?_, fun c3 => ?_⟩
  · rw [if_pos (of_decide_eq_true c3)]
    have h3 := rnums q hs
    have hil := fun l => items_len (accI q hs) (l := l)
    generalize itemsQ oneI q = x at *
    obtain ⟨o, q'⟩ := x
    cases o with
    | none =>
      have h4 := sameI_ok [] v.l (by simp) h.ln
      replace h3 : AIO Tryd.prog 26 [.ptr 0 0] [ro q] (fun bs rs => bs = [ro q'] ∧ rs = [.val .nils]) := h3
      conv => whnf
      refine .eff (by first | exact cxOk _ _ | exact cxPOk _ _ _) ?_
      conv => whnf
      refine .raw ([0] ++ []) _ rfl (fun _ => ⟨⟨_, [0] ++ [], _, _⟩, fun r' => Iff.rfl, rfl⟩) (callio_one (h3) [0] [] rfl rfl ⟨rfl, trivial⟩ (by exact BorL.cons (BorIO.ptr _ _ _ rfl) BorL.nil) rfl (.inl rfl)) ?_
      rintro _ rfl
      refine ⟨tn_ge _ _, ?_⟩
      conv => whnf
      repeat (first | (refine And.intro ⟨by omega, by omega⟩ ?_; conv => whnf) | (refine And.intro (by omega) (And.intro rfl ?_); conv => whnf) | (refine And.intro rfl ?_; conv => whnf) | (refine And.intro (fun _ => ⟨by omega, by omega⟩) ?_; conv => whnf) | (refine And.intro (fun _ => by omega) (And.intro rfl ?_); conv => whnf) | (refine And.intro ⟨(by first | omega | (simp; omega)), (by first | omega | (simp; omega))⟩ ?_; conv => whnf) | (refine Exists.intro _ (And.intro rfl (And.intro (by first | omega | (simp; omega)) (And.intro ⟨rfl, rfl, rfl, rfl, rfl⟩ ?_))); conv => whnf) | (refine And.intro ⟨rfl, rfl⟩ (And.intro (by first | omega | (simp; omega)) ?_); conv => whnf) | (refine Exists.intro _ (And.intro rfl ?_); conv => whnf) | (refine And.intro (fun _ => ?_) (fun h => absurd h (by decide)); conv => whnf) | (refine And.intro (fun h => absurd h (by decide)) (fun _ => ?_); conv => whnf) | (refine .eff (by first | exact cxOk _ _ | exact cxPOk _ _ _) ?_; conv => whnf))
      refine .one _ _ _ (fun _ => h4) (by repeat (first | exact .nil | (apply BorL.cons; first | exact lS rfl | exact lR rfl | exact lM rfl rfl | exact lL rfl | exact lX rfl | exact lN | exact lNl | exact lSm rfl | exact lIm rfl | exact lP rfl | exact lQ rfl | exact lB rfl rfl rfl))) (by first | exact .inl rfl | exact .inr (by repeat (first | exact flats_nil | refine flats_cons (by first | exact flat_val _ rfl | exact flat_row (fun _ => rfl) | exact flat_lst (fun _ => rfl)) ?_))) (by first | exact .inl rfl | exact .inr rfl) ?_
      conv => whnf
      repeat (first | (refine And.intro ⟨by omega, by omega⟩ ?_; conv => whnf) | (refine And.intro (by omega) (And.intro rfl ?_); conv => whnf) | (refine And.intro rfl ?_; conv => whnf) | (refine And.intro (fun _ => ⟨by omega, by omega⟩) ?_; conv => whnf) | (refine And.intro (fun _ => by omega) (And.intro rfl ?_); conv => whnf) | (refine And.intro ⟨(by first | omega | (simp; omega)), (by first | omega | (simp; omega))⟩ ?_; conv => whnf) | (refine Exists.intro _ (And.intro rfl (And.intro (by first | omega | (simp; omega)) (And.intro ⟨rfl, rfl, rfl, rfl, rfl⟩ ?_))); conv => whnf) | (refine And.intro ⟨rfl, rfl⟩ (And.intro (by first | omega | (simp; omega)) ?_); conv => whnf) | (refine Exists.intro _ (And.intro rfl ?_); conv => whnf) | (refine And.intro (fun _ => ?_) (fun h => absurd h (by decide)); conv => whnf) | (refine And.intro (fun h => absurd h (by decide)) (fun _ => ?_); conv => whnf) | (refine .eff (by first | exact cxOk _ _ | exact cxPOk _ _ _) ?_; conv => whnf))
      refine ⟨by kernel_rfl, ?_⟩
      conv => whnf
      exact ⟨rfl, rfl⟩
    | some l =>
      have h4 := sameI_ok l v.l (by have := hil l rfl; omega) h.ln
      replace h3 : AIO Tryd.prog 26 [.ptr 0 0] [ro q] (fun bs rs => bs = [ro q'] ∧ rs = [.new (.row 3 1 encI 0 l)]) := h3
      conv => whnf
      refine .eff (by first | exact cxOk _ _ | exact cxPOk _ _ _) ?_
      conv => whnf
      refine .raw ([0] ++ []) _ rfl (fun _ => ⟨⟨_, [0] ++ [], _, _⟩, fun r' => Iff.rfl, rfl⟩) (callio_one (h3) [0] [] rfl rfl ⟨rfl, trivial⟩ (by exact BorL.cons (BorIO.ptr _ _ _ rfl) BorL.nil) rfl (.inl rfl)) ?_
      rintro _ rfl
      refine ⟨tn_ge _ _, ?_⟩
      conv => whnf
      repeat (first | (refine And.intro ⟨by omega, by omega⟩ ?_; conv => whnf) | (refine And.intro (by omega) (And.intro rfl ?_); conv => whnf) | (refine And.intro rfl ?_; conv => whnf) | (refine And.intro (fun _ => ⟨by omega, by omega⟩) ?_; conv => whnf) | (refine And.intro (fun _ => by omega) (And.intro rfl ?_); conv => whnf) | (refine And.intro ⟨(by first | omega | (simp; omega)), (by first | omega | (simp; omega))⟩ ?_; conv => whnf) | (refine Exists.intro _ (And.intro rfl (And.intro (by first | omega | (simp; omega)) (And.intro ⟨rfl, rfl, rfl, rfl, rfl⟩ ?_))); conv => whnf) | (refine And.intro ⟨rfl, rfl⟩ (And.intro (by first | omega | (simp; omega)) ?_); conv => whnf) | (refine Exists.intro _ (And.intro rfl ?_); conv => whnf) | (refine And.intro (fun _ => ?_) (fun h => absurd h (by decide)); conv => whnf) | (refine And.intro (fun h => absurd h (by decide)) (fun _ => ?_); conv => whnf) | (refine .eff (by first | exact cxOk _ _ | exact cxPOk _ _ _) ?_; conv => whnf))
      refine .one _ _ _ (fun _ => h4) (by repeat (first | exact .nil | (apply BorL.cons; first | exact lS rfl | exact lR rfl | exact lM rfl rfl | exact lL rfl | exact lX rfl | exact lN | exact lNl | exact lSm rfl | exact lIm rfl | exact lP rfl | exact lQ rfl | exact lB rfl rfl rfl))) (by first | exact .inl rfl | exact .inr (by repeat (first | exact flats_nil | refine flats_cons (by first | exact flat_val _ rfl | exact flat_row (fun _ => rfl) | exact flat_lst (fun _ => rfl)) ?_))) (by first | exact .inl rfl | exact .inr rfl) ?_
      conv => whnf
      repeat (first | (refine And.intro ⟨by omega, by omega⟩ ?_; conv => whnf) | (refine And.intro (by omega) (And.intro rfl ?_); conv => whnf) | (refine And.intro rfl ?_; conv => whnf) | (refine And.intro (fun _ => ⟨by omega, by omega⟩) ?_; conv => whnf) | (refine And.intro (fun _ => by omega) (And.intro rfl ?_); conv => whnf) | (refine And.intro ⟨(by first | omega | (simp; omega)), (by first | omega | (simp; omega))⟩ ?_; conv => whnf) | (refine Exists.intro _ (And.intro rfl (And.intro (by first | omega | (simp; omega)) (And.intro ⟨rfl, rfl, rfl, rfl, rfl⟩ ?_))); conv => whnf) | (refine And.intro ⟨rfl, rfl⟩ (And.intro (by first | omega | (simp; omega)) ?_); conv => whnf) | (refine Exists.intro _ (And.intro rfl ?_); conv => whnf) | (refine And.intro (fun _ => ?_) (fun h => absurd h (by decide)); conv => whnf) | (refine And.intro (fun h => absurd h (by decide)) (fun _ => ?_); conv => whnf) | (refine .eff (by first | exact cxOk _ _ | exact cxPOk _ _ _) ?_; conv => whnf))
      refine ⟨by kernel_rfl, ?_⟩
      conv => whnf
      exact ⟨rfl, rfl⟩
  rw [if_neg (of_decide_eq_false c3)]
  have h3 := rtexts q hs
  have hil := fun l => items_len (accT q hs) (l := l)
  generalize itemsQ textQ q = x at *
  obtain ⟨o, q'⟩ := x
  cases o with
  | none =>
    have h4 := sameT_ok [] v.t (by simp) h.tn
    replace h3 : AIO Tryd.prog 27 [.ptr 0 0] [ro q] (fun bs rs => bs = [ro q'] ∧ rs = [.val .nils]) := h3
    conv => whnf
    refine .eff (by first | exact cxOk _ _ | exact cxPOk _ _ _) ?_
    conv => whnf
    refine .raw ([0] ++ []) _ rfl (fun _ => ⟨⟨_, [0] ++ [], _, _⟩, fun r' => Iff.rfl, rfl⟩) (callio_one (h3) [0] [] rfl rfl ⟨rfl, trivial⟩ (by exact BorL.cons (BorIO.ptr _ _ _ rfl) BorL.nil) rfl (.inl rfl)) ?_
    rintro _ rfl
    refine ⟨tn_ge _ _, ?_⟩
    conv => whnf
    repeat (first | (refine And.intro ⟨by omega, by omega⟩ ?_; conv => whnf) | (refine And.intro (by omega) (And.intro rfl ?_); conv => whnf) | (refine And.intro rfl ?_; conv => whnf) | (refine And.intro (fun _ => ⟨by omega, by omega⟩) ?_; conv => whnf) | (refine And.intro (fun _ => by omega) (And.intro rfl ?_); conv => whnf) | (refine And.intro ⟨(by first | omega | (simp; omega)), (by first | omega | (simp; omega))⟩ ?_; conv => whnf) | (refine Exists.intro _ (And.intro rfl (And.intro (by first | omega | (simp; omega)) (And.intro ⟨rfl, rfl, rfl, rfl, rfl⟩ ?_))); conv => whnf) | (refine And.intro ⟨rfl, rfl⟩ (And.intro (by first | omega | (simp; omega)) ?_); conv => whnf) | (refine Exists.intro _ (And.intro rfl ?_); conv => whnf) | (refine And.intro (fun _ => ?_) (fun h => absurd h (by decide)); conv => whnf) | (refine And.intro (fun h => absurd h (by decide)) (fun _ => ?_); conv => whnf) | (refine .eff (by first | exact cxOk _ _ | exact cxPOk _ _ _) ?_; conv => whnf))
    refine .one _ _ _ (fun _ => h4) (by repeat (first | exact .nil | (apply BorL.cons; first | exact lS rfl | exact lR rfl | exact lM rfl rfl | exact lL rfl | exact lX rfl | exact lN | exact lNl | exact lSm rfl | exact lIm rfl | exact lP rfl | exact lQ rfl | exact lB rfl rfl rfl))) (by first | exact .inl rfl | exact .inr (by repeat (first | exact flats_nil | refine flats_cons (by first | exact flat_val _ rfl | exact flat_row (fun _ => rfl) | exact flat_lst (fun _ => rfl)) ?_))) (by first | exact .inl rfl | exact .inr rfl) ?_
    conv => whnf
    repeat (first | (refine And.intro ⟨by omega, by omega⟩ ?_; conv => whnf) | (refine And.intro (by omega) (And.intro rfl ?_); conv => whnf) | (refine And.intro rfl ?_; conv => whnf) | (refine And.intro (fun _ => ⟨by omega, by omega⟩) ?_; conv => whnf) | (refine And.intro (fun _ => by omega) (And.intro rfl ?_); conv => whnf) | (refine And.intro ⟨(by first | omega | (simp; omega)), (by first | omega | (simp; omega))⟩ ?_; conv => whnf) | (refine Exists.intro _ (And.intro rfl (And.intro (by first | omega | (simp; omega)) (And.intro ⟨rfl, rfl, rfl, rfl, rfl⟩ ?_))); conv => whnf) | (refine And.intro ⟨rfl, rfl⟩ (And.intro (by first | omega | (simp; omega)) ?_); conv => whnf) | (refine Exists.intro _ (And.intro rfl ?_); conv => whnf) | (refine And.intro (fun _ => ?_) (fun h => absurd h (by decide)); conv => whnf) | (refine And.intro (fun h => absurd h (by decide)) (fun _ => ?_); conv => whnf) | (refine .eff (by first | exact cxOk _ _ | exact cxPOk _ _ _) ?_; conv => whnf))
    refine ⟨by kernel_rfl, ?_⟩
    conv => whnf
    exact ⟨rfl, rfl⟩
  | some l =>
    have h4 := sameT_ok l v.t (by have := hil l rfl; omega) h.tn
    replace h3 : AIO Tryd.prog 27 [.ptr 0 0] [ro q] (fun bs rs => bs = [ro q'] ∧ rs = [.new (.row 9 1 encS [] l)]) := h3
    conv => whnf
    refine .eff (by first | exact cxOk _ _ | exact cxPOk _ _ _) ?_
    conv => whnf
    refine .raw ([0] ++ []) _ rfl (fun _ => ⟨⟨_, [0] ++ [], _, _⟩, fun r' => Iff.rfl, rfl⟩) (callio_one (h3) [0] [] rfl rfl ⟨rfl, trivial⟩ (by exact BorL.cons (BorIO.ptr _ _ _ rfl) BorL.nil) rfl (.inl rfl)) ?_
    rintro _ rfl
    refine ⟨tn_ge _ _, ?_⟩
    conv => whnf
    repeat (first | (refine And.intro ⟨by omega, by omega⟩ ?_; conv => whnf) | (refine And.intro (by omega) (And.intro rfl ?_); conv => whnf) | (refine And.intro rfl ?_; conv => whnf) | (refine And.intro (fun _ => ⟨by omega, by omega⟩) ?_; conv => whnf) | (refine And.intro (fun _ => by omega) (And.intro rfl ?_); conv => whnf) | (refine And.intro ⟨(by first | omega | (simp; omega)), (by first | omega | (simp; omega))⟩ ?_; conv => whnf) | (refine Exists.intro _ (And.intro rfl (And.intro (by first | omega | (simp; omega)) (And.intro ⟨rfl, rfl, rfl, rfl, rfl⟩ ?_))); conv => whnf) | (refine And.intro ⟨rfl, rfl⟩ (And.intro (by first | omega | (simp; omega)) ?_); conv => whnf) | (refine Exists.intro _ (And.intro rfl ?_); conv => whnf) | (refine And.intro (fun _ => ?_) (fun h => absurd h (by decide)); conv => whnf) | (refine And.intro (fun h => absurd h (by decide)) (fun _ => ?_); conv => whnf) | (refine .eff (by first | exact cxOk _ _ | exact cxPOk _ _ _) ?_; conv => whnf))
    refine .one _ _ _ (fun _ => h4) (by repeat (first | exact .nil | (apply BorL.cons; first | exact lS rfl | exact lR rfl | exact lM rfl rfl | exact lL rfl | exact lX rfl | exact lN | exact lNl | exact lSm rfl | exact lIm rfl | exact lP rfl | exact lQ rfl | exact lB rfl rfl rfl))) (by first | exact .inl rfl | exact .inr (by repeat (first | exact flats_nil | refine flats_cons (by first | exact flat_val _ rfl | exact flat_row (fun _ => rfl) | exact flat_lst (fun _ => rfl)) ?_))) (by first | exact .inl rfl | exact .inr rfl) ?_
    conv => whnf
    repeat (first | (refine And.intro ⟨by omega, by omega⟩ ?_; conv => whnf) | (refine And.intro (by omega) (And.intro rfl ?_); conv => whnf) | (refine And.intro rfl ?_; conv => whnf) | (refine And.intro (fun _ => ⟨by omega, by omega⟩) ?_; conv => whnf) | (refine And.intro (fun _ => by omega) (And.intro rfl ?_); conv => whnf) | (refine And.intro ⟨(by first | omega | (simp; omega)), (by first | omega | (simp; omega))⟩ ?_; conv => whnf) | (refine Exists.intro _ (And.intro rfl (And.intro (by first | omega | (simp; omega)) (And.intro ⟨rfl, rfl, rfl, rfl, rfl⟩ ?_))); conv => whnf) | (refine And.intro ⟨rfl, rfl⟩ (And.intro (by first | omega | (simp; omega)) ?_); conv => whnf) | (refine Exists.intro _ (And.intro rfl ?_); conv => whnf) | (refine And.intro (fun _ => ?_) (fun h => absurd h (by decide)); conv => whnf) | (refine And.intro (fun h => absurd h (by decide)) (fun _ => ?_); conv => whnf) | (refine .eff (by first | exact cxOk _ _ | exact cxPOk _ _ _) ?_; conv => whnf))
    refine ⟨by kernel_rfl, ?_⟩
    conv => whnf
    exact ⟨rfl, rfl⟩

end Go.Proofs.YthepodkgphnibaaDoor

namespace Go.Proofs.YthepodkgphnibaaDoor
open Go.Own
set_option maxHeartbeats 1000000
set_option maxRecDepth 100000

def v0 : Val := ⟨0, 0, [], [], []⟩
def encVs (l : List Val) : AV := .sl 5 encV v0 l
/-- What few asks, as far as the laws use it. -/
structure FewV (v : Val) : Prop where
  s : v.s.length ≤ 400
  l : v.l.length ≤ 400
  t : v.t.length ≤ 400
  tk : ∀ k, k < v.t.length → (v.t.getD k []).length ≤ 400
structure Few (l : List Val) : Prop where
  len : l.length ≤ 20
  each : ∀ i, i < l.length → FewV (l.getD i v0)
/-- The bytes of the first strings of a value. -/
def totK (v : Val) : Nat → Nat
  | 0 => 0
  | k + 1 => totK v k + (v.t.getD k []).length
theorem totK_le {v : Val} : ∀ {k : Nat}, (∀ j, j < k → (v.t.getD j []).length ≤ 400) → totK v k ≤ k * 400
  | 0, _ => Nat.le_refl _
  | k + 1, h => by
    have h1 := totK_le (v := v) (k := k) fun j hj => h j (by omega)
    have h2 := h k (by omega)
    unfold totK
    omega
def accV (l : List Val) : Nat → Nat
  | 0 => 0
  | i + 1 => accV l i + (l.getD i v0).s.length + (l.getD i v0).l.length + (l.getD i v0).t.length + totK (l.getD i v0) (l.getD i v0).t.length
theorem accV_le {l : List Val} : ∀ {i : Nat}, (∀ j, j < i → FewV (l.getD j v0)) → accV l i ≤ i * 170000
  | 0, _ => Nat.le_refl _
  | i + 1, h => by
    have h1 := accV_le (l := l) (i := i) fun j hj => h j (by omega)
    have h2 := h i (by omega)
    have h3 := totK_le h2.tk
    have := h2.s
    have := h2.l
    have := h2.t
    unfold accV
    omega

/-- What few says. -/
noncomputable def fewB (l : List Val) : Bool := @decide (Few l ∧ accV l l.length ≤ 400) (Classical.propDecidable _)
theorem few_no {l : List Val} (h : ¬ Few l) : fewB l = false := by
  unfold fewB
  rw [decide_eq_false_iff_not]
  exact fun h' => h h'.1
theorem few_yes {l : List Val} (h : Few l) : fewB l = decide ((accV l l.length : Int) ≤ 400) := by
  unfold fewB
  by_cases hc : accV l l.length ≤ 400
  · rw [@decide_eq_true _ (Classical.propDecidable _) ⟨h, hc⟩, decide_eq_true (by omega)]
  · rw [@decide_eq_false _ (Classical.propDecidable _) (fun h' => hc h'.2), decide_eq_false (by omega)]
theorem few_of {l : List Val} (h : fewB l = true) : Few l := by
  unfold fewB at h
  exact (@of_decide_eq_true _ (Classical.propDecidable _) h).1

theorem few_ok (l : List Val) (hl : l.length ≤ 9223372036854775807) : APureV Tryd.prog 10 [encVs l] (.bool (fewB l)) := by
  refine apure_of (C := cx 95 [0, 2, 3, 4, 5, 8, 12, 39, 69, 81]) (cxOk _ _) Tryd.func10 rfl (by decide) rfl (by exact Nat.le_of_ble_eq_true rfl) (by decide) ?_
  conv => whnf
  refine ⟨fun hc => ?_, fun hc => ?_⟩
  · have hno : fewB l = false := few_no fun h => by
      have := of_decide_eq_true hc
      have := h.len
      omega
    conv => whnf
    rw [hno]
    rfl
  have hn : l.length ≤ 20 := by
    have := of_decide_eq_false hc
    omega
  conv => whnf
  refine loop_up (cxOk _ _) l.length (fun i => ∀ j, j < i → FewV (l.getD j v0)) (fun i => ⟨[(0, encVs l), (3, .int .i64 ((accV l i : Nat) : Int)), (4, .int .i64 ((i : Nat) : Int))], [], 0⟩) (fun j hj => by omega) (wk_of [] rfl ⟨.base (.tree _ _ rfl rfl), .base (.tree _ _ rfl rfl), .base (.tree _ _ rfl rfl), trivial⟩ trivial) ?_
  intro i hi hP
  have hav := accV_le hP
  have hei : (i : Int).toNat = i := Int.toNat_natCast i
  have hsucc : accV l (i + 1) = accV l i + (l.getD i v0).s.length + (l.getD i v0).l.length + (l.getD i v0).t.length + totK (l.getD i v0) (l.getD i v0).t.length := rfl
  conv => whnf
  refine ⟨fun hd => ?_, fun hd => ?_⟩
  · have hil : i < l.length := by
      have := of_decide_eq_true hd
      omega
    conv => whnf
    repeat (first | (refine And.intro ⟨by omega, by omega⟩ ?_; conv => whnf) | (refine And.intro (by omega) (And.intro rfl ?_); conv => whnf) | (refine And.intro rfl ?_; conv => whnf) | (refine And.intro (fun _ => ⟨by omega, by omega⟩) ?_; conv => whnf) | (refine And.intro (fun _ => by omega) (And.intro rfl ?_); conv => whnf) | (refine And.intro ⟨(by first | omega | (simp; omega)), (by first | omega | (simp; omega))⟩ ?_; conv => whnf) | (refine Exists.intro _ (And.intro rfl (And.intro (by first | omega | (simp; omega)) (And.intro ⟨rfl, rfl, rfl, rfl, rfl⟩ ?_))); conv => whnf) | (refine And.intro ⟨rfl, rfl⟩ (And.intro (by first | omega | (simp; omega)) ?_); conv => whnf) | (refine Exists.intro _ (And.intro rfl ?_); conv => whnf) | (refine And.intro (fun _ => ?_) (fun h => absurd h (by decide)); conv => whnf) | (refine And.intro (fun h => absurd h (by decide)) (fun _ => ?_); conv => whnf) | (refine .quiet (by kernel_rfl) ?_; conv => whnf))
    rw [hei]
    generalize hv : l.getD i v0 = v at *
    have hve : l.getD (i : Int).toNat v0 = v := by rw [hei, hv]
    refine ⟨fun hd2 => ?_, fun hd2 => ?_⟩
    · replace hd2 : ((decide (400 < (v.l.length : Int)) || decide (400 < (v.t.length : Int))) || decide (400 < (v.s.length : Int))) = true := hd2
      simp only [Bool.or_eq_true, decide_eq_true_eq] at hd2
      have hno : fewB l = false := few_no fun h => by
        have := h.each i hil
        rw [hv] at this
        have h1 := this.s
        have h2 := this.l
        have h3 := this.t
        omega
      conv => whnf
      rw [hno]
      rfl
    replace hd2 : ((decide (400 < (v.l.length : Int)) || decide (400 < (v.t.length : Int))) || decide (400 < (v.s.length : Int))) = false := hd2
    simp only [Bool.or_eq_false_iff, decide_eq_false_iff_not] at hd2
    obtain ⟨⟨e1, e2⟩, e3⟩ := hd2
    conv => whnf
    refine .quiet (by kernel_rfl) ?_
    conv => whnf
    repeat (first | (refine And.intro ⟨by omega, by omega⟩ ?_; conv => whnf) | (refine And.intro (by omega) (And.intro rfl ?_); conv => whnf) | (refine And.intro rfl ?_; conv => whnf) | (refine And.intro (fun _ => ⟨by omega, by omega⟩) ?_; conv => whnf) | (refine And.intro (fun _ => by omega) (And.intro rfl ?_); conv => whnf) | (refine And.intro ⟨(by first | omega | (simp; omega)), (by first | omega | (simp; omega))⟩ ?_; conv => whnf) | (refine Exists.intro _ (And.intro rfl (And.intro (by first | omega | (simp; omega)) (And.intro ⟨rfl, rfl, rfl, rfl, rfl⟩ ?_))); conv => whnf) | (refine And.intro ⟨rfl, rfl⟩ (And.intro (by first | omega | (simp; omega)) ?_); conv => whnf) | (refine Exists.intro _ (And.intro rfl ?_); conv => whnf) | (refine And.intro (fun _ => ?_) (fun h => absurd h (by decide)); conv => whnf) | (refine And.intro (fun h => absurd h (by decide)) (fun _ => ?_); conv => whnf) | (refine .quiet (by kernel_rfl) ?_; conv => whnf))
    rw [hve]
    repeat (first | (refine And.intro ⟨by omega, by omega⟩ ?_; conv => whnf) | (refine And.intro (by omega) (And.intro rfl ?_); conv => whnf) | (refine And.intro rfl ?_; conv => whnf) | (refine And.intro (fun _ => ⟨by omega, by omega⟩) ?_; conv => whnf) | (refine And.intro (fun _ => by omega) (And.intro rfl ?_); conv => whnf) | (refine And.intro ⟨(by first | omega | (simp; omega)), (by first | omega | (simp; omega))⟩ ?_; conv => whnf) | (refine Exists.intro _ (And.intro rfl (And.intro (by first | omega | (simp; omega)) (And.intro ⟨rfl, rfl, rfl, rfl, rfl⟩ ?_))); conv => whnf) | (refine And.intro ⟨rfl, rfl⟩ (And.intro (by first | omega | (simp; omega)) ?_); conv => whnf) | (refine Exists.intro _ (And.intro rfl ?_); conv => whnf) | (refine And.intro (fun _ => ?_) (fun h => absurd h (by decide)); conv => whnf) | (refine And.intro (fun h => absurd h (by decide)) (fun _ => ?_); conv => whnf) | (refine .quiet (by kernel_rfl) ?_; conv => whnf))
    rw [hve]
    repeat (first | (refine And.intro ⟨by omega, by omega⟩ ?_; conv => whnf) | (refine And.intro (by omega) (And.intro rfl ?_); conv => whnf) | (refine And.intro rfl ?_; conv => whnf) | (refine And.intro (fun _ => ⟨by omega, by omega⟩) ?_; conv => whnf) | (refine And.intro (fun _ => by omega) (And.intro rfl ?_); conv => whnf) | (refine And.intro ⟨(by first | omega | (simp; omega)), (by first | omega | (simp; omega))⟩ ?_; conv => whnf) | (refine Exists.intro _ (And.intro rfl (And.intro (by first | omega | (simp; omega)) (And.intro ⟨rfl, rfl, rfl, rfl, rfl⟩ ?_))); conv => whnf) | (refine And.intro ⟨rfl, rfl⟩ (And.intro (by first | omega | (simp; omega)) ?_); conv => whnf) | (refine Exists.intro _ (And.intro rfl ?_); conv => whnf) | (refine And.intro (fun _ => ?_) (fun h => absurd h (by decide)); conv => whnf) | (refine And.intro (fun h => absurd h (by decide)) (fun _ => ?_); conv => whnf) | (refine .quiet (by kernel_rfl) ?_; conv => whnf))
    rw [hve]
    repeat (first | (refine And.intro ⟨by omega, by omega⟩ ?_; conv => whnf) | (refine And.intro (by omega) (And.intro rfl ?_); conv => whnf) | (refine And.intro rfl ?_; conv => whnf) | (refine And.intro (fun _ => ⟨by omega, by omega⟩) ?_; conv => whnf) | (refine And.intro (fun _ => by omega) (And.intro rfl ?_); conv => whnf) | (refine And.intro ⟨(by first | omega | (simp; omega)), (by first | omega | (simp; omega))⟩ ?_; conv => whnf) | (refine Exists.intro _ (And.intro rfl (And.intro (by first | omega | (simp; omega)) (And.intro ⟨rfl, rfl, rfl, rfl, rfl⟩ ?_))); conv => whnf) | (refine And.intro ⟨rfl, rfl⟩ (And.intro (by first | omega | (simp; omega)) ?_); conv => whnf) | (refine Exists.intro _ (And.intro rfl ?_); conv => whnf) | (refine And.intro (fun _ => ?_) (fun h => absurd h (by decide)); conv => whnf) | (refine And.intro (fun h => absurd h (by decide)) (fun _ => ?_); conv => whnf) | (refine .quiet (by kernel_rfl) ?_; conv => whnf))
    refine loop_up (cxOk _ _) v.t.length (fun k => ∀ j, j < k → (v.t.getD j []).length ≤ 400) (fun k => ⟨[(0, encVs l), (3, .int .i64 ((accV l i + v.s.length + v.l.length + v.t.length + totK v k : Nat) : Int)), (4, .int .i64 ((i : Nat) : Int)), (5, .int .i64 ((k : Nat) : Int))], [], 0⟩) (fun j hj => by omega) (wk_of [] rfl ⟨.base (.tree _ _ rfl rfl), .base (.tree _ _ rfl rfl), .base (.tree _ _ rfl rfl), .base (.tree _ _ rfl rfl), trivial⟩ trivial) ?_
    intro k hk hPk
    have htk := totK_le hPk
    have hek : (k : Int).toNat = k := Int.toNat_natCast k
    conv => whnf
    repeat (first | (refine And.intro ⟨by omega, by omega⟩ ?_; conv => whnf) | (refine And.intro (by omega) (And.intro rfl ?_); conv => whnf) | (refine And.intro rfl ?_; conv => whnf) | (refine And.intro (fun _ => ⟨by omega, by omega⟩) ?_; conv => whnf) | (refine And.intro (fun _ => by omega) (And.intro rfl ?_); conv => whnf) | (refine And.intro ⟨(by first | omega | (simp; omega)), (by first | omega | (simp; omega))⟩ ?_; conv => whnf) | (refine Exists.intro _ (And.intro rfl (And.intro (by first | omega | (simp; omega)) (And.intro ⟨rfl, rfl, rfl, rfl, rfl⟩ ?_))); conv => whnf) | (refine And.intro ⟨rfl, rfl⟩ (And.intro (by first | omega | (simp; omega)) ?_); conv => whnf) | (refine Exists.intro _ (And.intro rfl ?_); conv => whnf) | (refine And.intro (fun _ => ?_) (fun h => absurd h (by decide)); conv => whnf) | (refine And.intro (fun h => absurd h (by decide)) (fun _ => ?_); conv => whnf) | (refine .quiet (by kernel_rfl) ?_; conv => whnf))
    rw [hve]
    repeat (first | (refine And.intro ⟨by omega, by omega⟩ ?_; conv => whnf) | (refine And.intro (by omega) (And.intro rfl ?_); conv => whnf) | (refine And.intro rfl ?_; conv => whnf) | (refine And.intro (fun _ => ⟨by omega, by omega⟩) ?_; conv => whnf) | (refine And.intro (fun _ => by omega) (And.intro rfl ?_); conv => whnf) | (refine And.intro ⟨(by first | omega | (simp; omega)), (by first | omega | (simp; omega))⟩ ?_; conv => whnf) | (refine Exists.intro _ (And.intro rfl (And.intro (by first | omega | (simp; omega)) (And.intro ⟨rfl, rfl, rfl, rfl, rfl⟩ ?_))); conv => whnf) | (refine And.intro ⟨rfl, rfl⟩ (And.intro (by first | omega | (simp; omega)) ?_); conv => whnf) | (refine Exists.intro _ (And.intro rfl ?_); conv => whnf) | (refine And.intro (fun _ => ?_) (fun h => absurd h (by decide)); conv => whnf) | (refine And.intro (fun h => absurd h (by decide)) (fun _ => ?_); conv => whnf) | (refine .quiet (by kernel_rfl) ?_; conv => whnf))
    refine ⟨fun hd3 => ?_, fun hd3 => ?_⟩
    · have hkl : k < v.t.length := by
        have := of_decide_eq_true hd3
        omega
      conv => whnf
      repeat (first | (refine And.intro ⟨by omega, by omega⟩ ?_; conv => whnf) | (refine And.intro (by omega) (And.intro rfl ?_); conv => whnf) | (refine And.intro rfl ?_; conv => whnf) | (refine And.intro (fun _ => ⟨by omega, by omega⟩) ?_; conv => whnf) | (refine And.intro (fun _ => by omega) (And.intro rfl ?_); conv => whnf) | (refine And.intro ⟨(by first | omega | (simp; omega)), (by first | omega | (simp; omega))⟩ ?_; conv => whnf) | (refine Exists.intro _ (And.intro rfl (And.intro (by first | omega | (simp; omega)) (And.intro ⟨rfl, rfl, rfl, rfl, rfl⟩ ?_))); conv => whnf) | (refine And.intro ⟨rfl, rfl⟩ (And.intro (by first | omega | (simp; omega)) ?_); conv => whnf) | (refine Exists.intro _ (And.intro rfl ?_); conv => whnf) | (refine And.intro (fun _ => ?_) (fun h => absurd h (by decide)); conv => whnf) | (refine And.intro (fun h => absurd h (by decide)) (fun _ => ?_); conv => whnf) | (refine .quiet (by kernel_rfl) ?_; conv => whnf))
      rw [hve]
      repeat (first | (refine And.intro ⟨by omega, by omega⟩ ?_; conv => whnf) | (refine And.intro (by omega) (And.intro rfl ?_); conv => whnf) | (refine And.intro rfl ?_; conv => whnf) | (refine And.intro (fun _ => ⟨by omega, by omega⟩) ?_; conv => whnf) | (refine And.intro (fun _ => by omega) (And.intro rfl ?_); conv => whnf) | (refine And.intro ⟨(by first | omega | (simp; omega)), (by first | omega | (simp; omega))⟩ ?_; conv => whnf) | (refine Exists.intro _ (And.intro rfl (And.intro (by first | omega | (simp; omega)) (And.intro ⟨rfl, rfl, rfl, rfl, rfl⟩ ?_))); conv => whnf) | (refine And.intro ⟨rfl, rfl⟩ (And.intro (by first | omega | (simp; omega)) ?_); conv => whnf) | (refine Exists.intro _ (And.intro rfl ?_); conv => whnf) | (refine And.intro (fun _ => ?_) (fun h => absurd h (by decide)); conv => whnf) | (refine And.intro (fun h => absurd h (by decide)) (fun _ => ?_); conv => whnf) | (refine .quiet (by kernel_rfl) ?_; conv => whnf))
      rw [hek]
      refine ⟨fun hd4 => ?_, fun hd4 => ?_⟩
      · replace hd4 := of_decide_eq_true hd4
        have hno : fewB l = false := few_no fun h => by
          have := h.each i hil
          rw [hv] at this
          have := this.tk k hkl
          omega
        conv => whnf
        rw [hno]
        rfl
      replace hd4 := of_decide_eq_false hd4
      conv => whnf
      repeat (first | (refine And.intro ⟨by omega, by omega⟩ ?_; conv => whnf) | (refine And.intro (by omega) (And.intro rfl ?_); conv => whnf) | (refine And.intro rfl ?_; conv => whnf) | (refine And.intro (fun _ => ⟨by omega, by omega⟩) ?_; conv => whnf) | (refine And.intro (fun _ => by omega) (And.intro rfl ?_); conv => whnf) | (refine And.intro ⟨(by first | omega | (simp; omega)), (by first | omega | (simp; omega))⟩ ?_; conv => whnf) | (refine Exists.intro _ (And.intro rfl (And.intro (by first | omega | (simp; omega)) (And.intro ⟨rfl, rfl, rfl, rfl, rfl⟩ ?_))); conv => whnf) | (refine And.intro ⟨rfl, rfl⟩ (And.intro (by first | omega | (simp; omega)) ?_); conv => whnf) | (refine Exists.intro _ (And.intro rfl ?_); conv => whnf) | (refine And.intro (fun _ => ?_) (fun h => absurd h (by decide)); conv => whnf) | (refine And.intro (fun h => absurd h (by decide)) (fun _ => ?_); conv => whnf) | (refine .quiet (by kernel_rfl) ?_; conv => whnf))
      rw [hve]
      repeat (first | (refine And.intro ⟨by omega, by omega⟩ ?_; conv => whnf) | (refine And.intro (by omega) (And.intro rfl ?_); conv => whnf) | (refine And.intro rfl ?_; conv => whnf) | (refine And.intro (fun _ => ⟨by omega, by omega⟩) ?_; conv => whnf) | (refine And.intro (fun _ => by omega) (And.intro rfl ?_); conv => whnf) | (refine And.intro ⟨(by first | omega | (simp; omega)), (by first | omega | (simp; omega))⟩ ?_; conv => whnf) | (refine Exists.intro _ (And.intro rfl (And.intro (by first | omega | (simp; omega)) (And.intro ⟨rfl, rfl, rfl, rfl, rfl⟩ ?_))); conv => whnf) | (refine And.intro ⟨rfl, rfl⟩ (And.intro (by first | omega | (simp; omega)) ?_); conv => whnf) | (refine Exists.intro _ (And.intro rfl ?_); conv => whnf) | (refine And.intro (fun _ => ?_) (fun h => absurd h (by decide)); conv => whnf) | (refine And.intro (fun h => absurd h (by decide)) (fun _ => ?_); conv => whnf) | (refine .quiet (by kernel_rfl) ?_; conv => whnf))
      rw [hek]
      have htot : totK v (k + 1) = totK v k + (v.t.getD k []).length := rfl
      repeat (first | (refine And.intro ⟨by omega, by omega⟩ ?_; conv => whnf) | (refine And.intro (by omega) (And.intro rfl ?_); conv => whnf) | (refine And.intro rfl ?_; conv => whnf) | (refine And.intro (fun _ => ⟨by omega, by omega⟩) ?_; conv => whnf) | (refine And.intro (fun _ => by omega) (And.intro rfl ?_); conv => whnf) | (refine And.intro ⟨(by first | omega | (simp; omega)), (by first | omega | (simp; omega))⟩ ?_; conv => whnf) | (refine Exists.intro _ (And.intro rfl (And.intro (by first | omega | (simp; omega)) (And.intro ⟨rfl, rfl, rfl, rfl, rfl⟩ ?_))); conv => whnf) | (refine And.intro ⟨rfl, rfl⟩ (And.intro (by first | omega | (simp; omega)) ?_); conv => whnf) | (refine Exists.intro _ (And.intro rfl ?_); conv => whnf) | (refine And.intro (fun _ => ?_) (fun h => absurd h (by decide)); conv => whnf) | (refine And.intro (fun h => absurd h (by decide)) (fun _ => ?_); conv => whnf) | (refine .quiet (by kernel_rfl) ?_; conv => whnf))
      refine up hkl (fun j hj => ?_) ((wk_of [] rfl ⟨.base (.tree _ _ rfl rfl), .base (.tree _ _ (show AV.int .i64 _ = AV.int .i64 _ by congr 1; omega) rfl), .base (.tree _ _ rfl rfl), .base (.tree _ _ rfl rfl), trivial⟩ trivial))
      rcases Nat.lt_succ_iff_lt_or_eq.1 hj with h | rfl
      · exact hPk j h
      · omega
    · have hkl : k = v.t.length := by
        have := of_decide_eq_false hd3
        omega
      conv => whnf
      repeat (first | (refine And.intro ⟨by omega, by omega⟩ ?_; conv => whnf) | (refine And.intro (by omega) (And.intro rfl ?_); conv => whnf) | (refine And.intro rfl ?_; conv => whnf) | (refine And.intro (fun _ => ⟨by omega, by omega⟩) ?_; conv => whnf) | (refine And.intro (fun _ => by omega) (And.intro rfl ?_); conv => whnf) | (refine And.intro ⟨(by first | omega | (simp; omega)), (by first | omega | (simp; omega))⟩ ?_; conv => whnf) | (refine Exists.intro _ (And.intro rfl (And.intro (by first | omega | (simp; omega)) (And.intro ⟨rfl, rfl, rfl, rfl, rfl⟩ ?_))); conv => whnf) | (refine And.intro ⟨rfl, rfl⟩ (And.intro (by first | omega | (simp; omega)) ?_); conv => whnf) | (refine Exists.intro _ (And.intro rfl ?_); conv => whnf) | (refine And.intro (fun _ => ?_) (fun h => absurd h (by decide)); conv => whnf) | (refine And.intro (fun h => absurd h (by decide)) (fun _ => ?_); conv => whnf) | (refine .quiet (by kernel_rfl) ?_; conv => whnf))
      refine up hil (fun j hj => ?_) ((wk_of [] rfl ⟨.base (.tree _ _ rfl rfl), .base (.tree _ _ (show AV.int .i64 _ = AV.int .i64 _ by congr 1; rw [hsucc, hkl]) rfl), .base (.tree _ _ rfl rfl), trivial⟩ trivial))
      rcases Nat.lt_succ_iff_lt_or_eq.1 hj with h | rfl
      · exact hP j h
      · rw [hv]
        exact ⟨by omega, by omega, by omega, fun j hj => hPk j (by omega)⟩
  · have hil : i = l.length := by
      have := of_decide_eq_false hd
      omega
    conv => whnf
    rw [few_yes ⟨hn, fun j hj => hP j (by omega)⟩, hil]
    rfl

end Go.Proofs.YthepodkgphnibaaDoor

namespace Go.Proofs.YthepodkgphnibaaDoor
open Go.Own

/-! ### Numerals -/
theorem nDigits_le : ∀ (k u : Nat), 1 ≤ k → u < 10 ^ k → Lib.nDigits u ≤ k
  | 0, _, h, _ => absurd h (by decide)
  | k + 1, u, _, h => by
    by_cases hu : u < 10
    · rw [Lib.nDigits_small hu]; omega
    · have hk : 1 ≤ k := by
        rcases Nat.eq_zero_or_pos k with rfl | h'
        · rw [Nat.zero_add, Nat.pow_one] at h; omega
        · exact h'
      rw [Lib.nDigits_big hu]
      rw [Nat.pow_succ] at h
      have := nDigits_le k (u / 10) hk (by omega)
      omega
theorem itoa_len (n : Int) (h : in64 n) : (Lib.itoa n).length ≤ 20 := by
  obtain ⟨h0, h1⟩ := h
  by_cases hneg : n < 0
  · obtain ⟨u, rfl⟩ : ∃ u : Nat, n = -(u : Int) := ⟨n.natAbs, by omega⟩
    rw [Lib.itoa_neg u (by omega), List.length_cons, Lib.decDigits_length]
    have := nDigits_le 19 u (by omega) (by omega)
    omega
  · obtain ⟨u, rfl⟩ : ∃ u : Nat, n = u := ⟨n.toNat, by omega⟩
    rw [Lib.itoa_nonneg, Lib.decDigits_length]
    have := nDigits_le 19 u (by omega) (by omega)
    omega
theorem decDigits_rec (u : Nat) : Lib.decDigits u = if u < 10 then [UInt8.ofNat (48 + u)] else Lib.decDigits (u / 10) ++ [UInt8.ofNat (48 + u % 10)] := by
  rw [Lib.decDigits]
  split <;> rfl
theorem dig_nat (d : Nat) (h : d < 10) : (UInt8.ofNat (48 + d)).toNat = 48 + d := by
  rw [UInt8.toNat_ofNat']
  omega
theorem decDigits_mem (u : Nat) : ∀ b ∈ Lib.decDigits u, 48 ≤ b.toNat ∧ b.toNat ≤ 57 := by
  induction u using Nat.strongRecOn with
  | _ u ih =>
    intro b hb
    rw [decDigits_rec] at hb
    split at hb
    · rename_i hu
      simp only [List.mem_cons, List.not_mem_nil, or_false] at hb
      subst hb
      rw [dig_nat u hu]
      omega
    · rename_i hu
      rw [List.mem_append] at hb
      rcases hb with hb | hb
      · exact ih (u / 10) (by omega) b hb
      · simp only [List.mem_cons, List.not_mem_nil, or_false] at hb
        subst hb
        rw [dig_nat _ (Nat.mod_lt _ (by decide))]
        have := Nat.mod_lt u (show 0 < 10 by decide)
        omega
theorem decDigits_ne (u : Nat) : Lib.decDigits u ≠ [] := by
  rw [decDigits_rec]
  split <;> simp
def thenP (e : Lib.NumEnd Nat) (f : Nat → Lib.NumEnd Nat) : Lib.NumEnd Nat :=
  match e with
  | .ok v => f v
  | e => e
theorem parse_append : ∀ (a b : List UInt8) (acc : Nat), Lib.parseUint10 acc (a ++ b) = thenP (Lib.parseUint10 acc a) (fun v => Lib.parseUint10 v b)
  | [], b, acc => rfl
  | c :: a, b, acc => by
    have ih := fun k => parse_append a b k
    rw [List.cons_append]
    by_cases h1 : 48 ≤ c.toNat ∧ c.toNat ≤ 57
    · by_cases h2 : 1844674407370955162 ≤ acc
      · simp only [Lib.parseUint10, if_pos h1, if_pos h2, thenP]
      · by_cases h3 : 18446744073709551616 ≤ acc * 10 + (c.toNat - 48)
        · simp only [Lib.parseUint10, if_pos h1, if_neg h2, if_pos h3, thenP]
        · simp only [Lib.parseUint10, if_pos h1, if_neg h2, if_neg h3]
          exact ih _
    · simp only [Lib.parseUint10, if_neg h1, thenP]
theorem parse_dec (u : Nat) (hu : u < 18446744073709551616) : Lib.parseUint10 0 (Lib.decDigits u) = .ok u := by
  induction u using Nat.strongRecOn with
  | _ u ih =>
    rw [decDigits_rec]
    split
    · rename_i h
      simp only [Lib.parseUint10]
      rw [dig_nat u h, if_pos (by omega), if_neg (by omega), if_neg (by omega)]
      congr 1
      omega
    · rename_i h
      rw [parse_append, ih (u / 10) (by omega) (by omega)]
      simp only [thenP, Lib.parseUint10]
      have := Nat.mod_lt u (show 0 < 10 by decide)
      rw [dig_nat _ this, if_pos (by omega), if_neg (by omega), if_neg (by omega)]
      congr 1
      omega
theorem mag_dec (u : Nat) (hu : u < 18446744073709551616) : Lib.parseMag (Lib.decDigits u) = .ok u := by
  unfold Lib.parseMag
  rw [if_neg (decDigits_ne u), parse_dec u hu]
theorem atoi_itoa (n : Int) (h : in64 n) : Lib.atoiAll (Lib.itoa n) = .ok n := by
  obtain ⟨h0, h1⟩ := h
  by_cases hneg : n < 0
  · obtain ⟨u, rfl⟩ : ∃ u : Nat, n = -(u : Int) := ⟨n.natAbs, by omega⟩
    rw [Lib.itoa_neg u (by omega), Lib.atoiAll_minus, mag_dec u (by omega)]
    show (if 9223372036854775808 < u then Lib.NumEnd.range else Lib.NumEnd.ok (-(u : Int))) = _
    rw [if_neg (by omega)]
  · obtain ⟨u, rfl⟩ : ∃ u : Nat, n = u := ⟨n.toNat, by omega⟩
    rw [Lib.itoa_nonneg]
    have hm := decDigits_mem u
    have hp := mag_dec u (by omega)
    cases hd : Lib.decDigits u with
    | nil => exact absurd hd (decDigits_ne u)
    | cons c r =>
      rw [hd] at hm hp
      have hc := hm c (List.mem_cons_self ..)
      rw [Lib.atoiAll_plain c r (by omega) (by omega), hp]
      show (if 9223372036854775808 ≤ u then Lib.NumEnd.range else Lib.NumEnd.ok (u : Int)) = _
      rw [if_neg (by omega)]
theorem itoa_mem (n : Int) : ∀ b ∈ Lib.itoa n, b.toNat ≤ 57 := by
  intro b hb
  by_cases hneg : n < 0
  · obtain ⟨u, rfl⟩ : ∃ u : Nat, n = -(u : Int) := ⟨n.natAbs, by omega⟩
    rw [Lib.itoa_neg u (by omega), List.mem_cons] at hb
    rcases hb with rfl | hb
    · decide
    · exact (decDigits_mem u b hb).2
  · obtain ⟨u, rfl⟩ : ∃ u : Nat, n = u := ⟨n.toNat, by omega⟩
    rw [Lib.itoa_nonneg] at hb
    exact (decDigits_mem u b hb).2
theorem indexByte_at : ∀ (a : List UInt8) (c : UInt8) (r : List UInt8), c ∉ a → Lib.indexByte (a ++ c :: r) c = (a.length : Int)
  | [], c, r, _ => by
    rw [List.nil_append]
    unfold Lib.indexByte
    rw [if_pos (by simp)]
    rfl
  | b :: a, c, r, h => by
    rw [List.mem_cons, not_or] at h
    rw [List.cons_append]
    unfold Lib.indexByte
    rw [indexByte_at a c r h.2, if_neg (by simp; exact fun h' => h.1 h'.symm), if_neg (by simp)]
    simp

/-! ### Reading back -/
/-- A byte that ends a number. -/
def EndB (c : Int) : Prop := 57 < c.toNat.toUInt8.toNat
abbrev cb (c : Int) : UInt8 := c.toNat.toUInt8
theorem numR_back (c least n : Int) (r : List UInt8) (hn : in64 n) (hl : least ≤ n) (hc : EndB c) : numR c least (Lib.itoa n ++ cb c :: r) = some (n, r) := by
  have hlen := itoa_len n hn
  have hmem : cb c ∉ Lib.itoa n := fun h => by
    have := itoa_mem n _ h
    unfold EndB at hc
    unfold cb at this
    omega
  have htk : (Lib.itoa n ++ cb c :: r).take (min (Lib.itoa n ++ cb c :: r).length 21) = Lib.itoa n ++ cb c :: r.take (min (Lib.itoa n ++ cb c :: r).length 21 - (Lib.itoa n).length - 1) := by
    rw [List.take_append, List.take_of_length_le (by simp; omega)]
    have : min (Lib.itoa n ++ cb c :: r).length 21 - (Lib.itoa n).length = (min (Lib.itoa n ++ cb c :: r).length 21 - (Lib.itoa n).length - 1) + 1 := by
      simp only [List.length_append, List.length_cons]
      omega
    rw [this, List.take_succ_cons]
    rfl
  unfold numR
  simp only
  rw [htk, indexByte_at _ _ _ hmem, if_neg (by omega), Int.toNat_natCast, List.take_append_of_le_length (Nat.le_refl _), List.take_length, atoi_itoa n hn]
  simp only
  rw [if_pos ⟨trivial, hl⟩]
  congr 2
  rw [List.drop_append]
  simp
theorem numR_inv {c least n : Int} {s r : List UInt8} (h : numR c least s = some (n, r)) : s = Lib.itoa n ++ cb c :: r ∧ in64 n ∧ least ≤ n := by
  unfold numR at h
  simp only at h
  split at h
  · cases h
  · rename_i hp
    obtain ⟨o, ho⟩ : ∃ o : Nat, Lib.indexByte (s.take (min s.length 21)) c.toNat.toUInt8 = (o : Int) := ⟨_, (Int.toNat_of_nonneg (by omega)).symm⟩
    have hat := (Lib.indexByte_some ho).1
    rw [ho, Int.toNat_natCast] at h
    split at h
    · rename_i v hv
      split at h
      · rename_i hk
        cases h
        have hol := (List.getElem?_eq_some_iff.1 hat).1
        rw [List.length_take] at hol
        rw [List.getElem?_take] at hat
        rw [if_pos (by omega)] at hat
        rw [List.take_take, show min o (min s.length 21) = o by omega] at hk
        obtain ⟨hlt, hge⟩ := List.getElem?_eq_some_iff.1 hat
        refine ⟨?_, Lib.atoiAll_bounds hv, hk.2⟩
        rw [hk.1]
        have e : s.drop o = c.toNat.toUInt8 :: s.drop (o + 1) := by
          rw [List.drop_eq_getElem_cons hlt, hge]
        show s = s.take o ++ c.toNat.toUInt8 :: s.drop (o + 1)
        rw [← e, List.take_append_drop]
      · cases h
    · cases h
theorem closeR_back (e : UInt8) (r : List UInt8) : closeR [e] (e :: r) = some r := by
  have h : Lib.hasPrefix (e :: r) [e] = true := by
    simp [Lib.hasPrefix]
  unfold closeR
  rw [if_pos h]
  unfold Lib.trimPrefix
  rw [if_pos h]
  rfl
theorem closeR_inv {e : UInt8} {s r : List UInt8} (h : closeR [e] s = some r) : s = e :: r := by
  unfold closeR at h
  split at h
  · rename_i hp
    cases h
    unfold Lib.trimPrefix
    rw [if_pos hp]
    cases s with
    | nil => simp [Lib.hasPrefix] at hp
    | cons a s =>
      simp [Lib.hasPrefix] at hp
      rw [hp]
      rfl
  · cases h

theorem numQ_back (c least n : Int) (r : List UInt8) (b : Bool) (hn : in64 n) (hl : least ≤ n) (hc : EndB c) : numQ c least ⟨Lib.itoa n ++ cb c :: r, b⟩ = (n, ⟨r, b⟩) := by
  unfold numQ
  rw [numR_back c least n r hn hl hc]
theorem numQ_inv {c least : Int} {q : RS} (h : (numQ c least q).2.bad = false) : q.bad = false ∧ q.rest = Lib.itoa (numQ c least q).1 ++ cb c :: (numQ c least q).2.rest ∧ in64 (numQ c least q).1 ∧ least ≤ (numQ c least q).1 := by
  unfold numQ at h ⊢
  cases hn : numR c least q.rest with
  | none => rw [hn] at h; cases h
  | some x =>
    rw [hn] at h
    exact ⟨h, numR_inv (r := x.2) (n := x.1) hn⟩
/-- A reader that has failed has nothing left. -/
def Dead (q : RS) : Prop := q.bad = true → q.rest = []
theorem numQ_dead (c least : Int) (q : RS) (h : Dead q) : Dead (numQ c least q).2 := by
  unfold numQ
  cases hn : numR c least q.rest with
  | none => exact fun _ => rfl
  | some x =>
    intro hb
    rw [h hb] at hn
    have := numR_lt (r := x.2) (n := x.1) hn
    exact absurd this (Nat.not_lt_zero _)

/-- A way to read what another way writes. -/
structure Codec {T : Type} (one : RS → T × RS) (f : T → List UInt8) (P : T → Prop) : Prop where
  back : ∀ x r, P x → one ⟨f x ++ r, false⟩ = (x, ⟨r, false⟩)
  inv : ∀ q, (one q).2.bad = false → q.bad = false ∧ q.rest = f (one q).1 ++ (one q).2.rest
  dead : ∀ q, Dead q → Dead (one q).2
theorem codecI : Codec oneI intS in64 := by
  refine ⟨fun x r h => ?_, fun q h => ?_, fun q h => numQ_dead _ _ q h⟩
  · unfold intS
    rw [List.append_assoc]
    exact numQ_back 59 _ x r false h h.1 (by unfold EndB; decide)
  · obtain ⟨h1, h2, _, _⟩ := numQ_inv h
    refine ⟨h1, ?_⟩
    rw [h2]
    unfold intS
    rw [List.append_assoc]
    rfl
theorem codecN : Codec (numQ 59 0) numS (fun n => 0 ≤ n ∧ in64 n) := by
  refine ⟨fun x r h => ?_, fun q h => ?_, fun q h => numQ_dead _ _ q h⟩
  · unfold numS intS
    rw [if_neg (by omega), List.append_assoc]
    exact numQ_back 59 _ x r false h.2 h.1 (by unfold EndB; decide)
  · obtain ⟨h1, h2, _, h4⟩ := numQ_inv h
    refine ⟨h1, ?_⟩
    rw [h2]
    unfold numS intS
    rw [if_neg (by omega), List.append_assoc]
    rfl
theorem codecT : Codec textQ textS (fun s => s.length ≤ 9223372036854775000) := by
  refine ⟨fun x r h => ?_, fun q h => ?_, fun q h => ?_⟩
  · have e : textS x ++ r = Lib.itoa x.length ++ cb 58 :: (x ++ 44 :: r) := by
      unfold textS
      simp only [List.append_assoc]
      rfl
    have hn := numQ_back 58 0 x.length (x ++ 44 :: r) false (by unfold in64; omega) (by omega) (by unfold EndB; decide)
    unfold textQ
    simp only
    rw [e, hn]
    simp only [Int.toNat_natCast]
    rw [if_neg (by simp; omega), List.drop_append_of_le_length (Nat.le_refl _), List.drop_length, List.nil_append, closeR_back]
    simp
  · unfold textQ at h ⊢
    simp only at h ⊢
    split at h
    · cases h
    · rename_i hc
      rw [if_neg hc]
      cases hcl : closeR [44] ((numQ 58 0 q).2.rest.drop (numQ 58 0 q).1.toNat) with
      | none => rw [hcl] at h; cases h
      | some r =>
        rw [hcl] at h
        have hb : (numQ 58 0 q).2.bad = false := h
        obtain ⟨h1, h2, h3, h4⟩ := numQ_inv (c := 58) (least := 0) (q := q) hb
        have h5 := closeR_inv hcl
        refine ⟨h1, ?_⟩
        simp only [hb]
        rw [if_neg (by simp)]
        generalize numQ 58 0 q = y at *
        obtain ⟨n, q1, b1⟩ := y
        simp only at hc h2 h4 h5 ⊢
        have hlen : (q1.take n.toNat).length = n.toNat := by rw [List.length_take]; omega
        unfold textS
        rw [h2, hlen, Int.toNat_of_nonneg h4]
        have e : q1 = q1.take n.toNat ++ 44 :: r := by rw [← h5, List.take_append_drop]
        simp only [List.append_assoc]
        rw [show Lib.itoa n ++ cb 58 :: q1 = Lib.itoa n ++ cb 58 :: (q1.take n.toNat ++ 44 :: r) by rw [← e]]
        rfl
  · unfold textQ
    simp only
    split
    · exact fun _ => rfl
    · cases hcl : closeR [44] ((numQ 58 0 q).2.rest.drop (numQ 58 0 q).1.toNat) with
      | none => exact fun _ => rfl
      | some r =>
        intro hb
        have hb : (numQ 58 0 q).2.bad = true := hb
        have := numQ_dead 58 0 q h hb
        rw [this, List.drop_nil] at hcl
        have := closeR_inv hcl
        cases this

theorem stK_back {T : Type} {one : RS → T × RS} {f : T → List UInt8} {P : T → Prop} (hc : Codec one f P) (l : List T) (hl : ∀ x ∈ l, P x) (r : List UInt8) : ∀ k, k ≤ l.length → stK one ⟨l.flatMap f ++ r, false⟩ k = (⟨(l.drop k).flatMap f ++ r, false⟩, l.take k)
  | 0, _ => by simp [stK]
  | k + 1, hk => by
    have ih := stK_back hc l hl r k (by omega)
    have hlt : k < l.length := by omega
    unfold stK
    rw [ih, if_neg (by simp)]
    simp only
    rw [List.drop_eq_getElem_cons hlt, List.flatMap_cons, List.append_assoc, hc.back _ _ (hl _ (List.getElem_mem hlt))]
    simp only
    rw [List.take_add_one, List.getElem?_eq_getElem hlt]
    rfl
theorem stK_inv {T : Type} {one : RS → T × RS} {f : T → List UInt8} {P : T → Prop} (hc : Codec one f P) (q : RS) : ∀ k, (stK one q k).1.bad = false → q.bad = false ∧ q.rest = (stK one q k).2.flatMap f ++ (stK one q k).1.rest ∧ (stK one q k).2.length = k
  | 0, h => ⟨h, rfl, rfl⟩
  | k + 1, h => by
    unfold stK at h ⊢
    split at h
    · rename_i hb
      rw [hb] at h
      cases h
    · rename_i hb
      rw [if_neg hb]
      obtain ⟨h1, h2, h3⟩ := stK_inv hc q k (by simpa using hb)
      obtain ⟨_, h4⟩ := hc.inv _ h
      refine ⟨h1, ?_, by simp [h3]⟩
      rw [h2, List.flatMap_append, List.append_assoc]
      congr 1
      rw [h4]
      simp
theorem stK_dead {T : Type} {one : RS → T × RS} {f : T → List UInt8} {P : T → Prop} (hc : Codec one f P) (q : RS) (hq : Dead q) : ∀ k, Dead (stK one q k).1
  | 0 => hq
  | k + 1 => by
    unfold stK
    split
    · exact stK_dead hc q hq k
    · exact hc.dead _ (stK_dead hc q hq k)

def listQ {T : Type} (one : RS → T × RS) (q : RS) : List T × RS := (listOf (itemsQ one q).1, (itemsQ one q).2)
theorem codecL {T : Type} {one : RS → T × RS} {f : T → List UInt8} {P : T → Prop} (hc : Codec one f P) : Codec (listQ one) (listS f) (fun l => (∀ x ∈ l, P x) ∧ l.length ≤ 9223372036854775807) := by
  refine ⟨fun l r h => ?_, fun q h => ?_, fun q h => ?_⟩
  · have e : listS f l ++ r = Lib.itoa l.length ++ cb 91 :: (l.flatMap f ++ 93 :: r) := by
      unfold listS headS
      simp only [List.append_assoc]
      rfl
    have hn := numQ_back 91 0 l.length (l.flatMap f ++ 93 :: r) false (by unfold in64; omega) (by omega) (by unfold EndB; decide)
    unfold listQ itemsQ
    simp only
    rw [e, hn]
    simp only [Int.toNat_natCast]
    rw [stK_back hc l h.1 (93 :: r) l.length (Nat.le_refl _)]
    simp only [List.drop_length, List.flatMap_nil, List.nil_append, closeR_back, List.take_length]
    simp [listOf]
  · unfold listQ itemsQ at h ⊢
    simp only at h ⊢
    cases hcl : closeR [93] (stK one (numQ 91 0 q).2 (numQ 91 0 q).1.toNat).1.rest with
    | none => rw [hcl] at h; cases h
    | some r =>
      rw [hcl] at h
      have hb : (stK one (numQ 91 0 q).2 (numQ 91 0 q).1.toNat).1.bad = false := h
      obtain ⟨h1, h2, h3⟩ := stK_inv hc _ _ hb
      obtain ⟨h4, h5, h6, h7⟩ := numQ_inv (c := 91) (least := 0) (q := q) h1
      have h8 := closeR_inv hcl
      refine ⟨h4, ?_⟩
      simp only [hb]
      rw [if_neg (by simp)]
      simp only [listOf, Option.getD_some]
      unfold listS headS
      rw [h3, Int.toNat_of_nonneg h7, h5, h2, h8]
      simp only [List.append_assoc]
      rfl
  · unfold listQ itemsQ
    simp only
    cases hcl : closeR [93] (stK one (numQ 91 0 q).2 (numQ 91 0 q).1.toNat).1.rest with
    | none => exact fun _ => rfl
    | some r =>
      intro hb
      have hb : (stK one (numQ 91 0 q).2 (numQ 91 0 q).1.toNat).1.bad = true := hb
      have := stK_dead hc _ (numQ_dead 91 0 q h) _ hb
      rw [this] at hcl
      have := closeR_inv hcl
      cases this

/-! ### What the laws say -/
theorem codec_prefix {T : Type} {one : RS → T × RS} {f : T → List UInt8} {P : T → Prop} (hc : Codec one f P) {x y : T} {r : List UInt8} (hx : P x) (hy : P y) (h : f x ++ r = f y) : x = y ∧ r = [] := by
  have h1 := hc.back x r hx
  have h2 := hc.back y [] hy
  rw [List.append_nil, ← h, h1] at h2
  simp only [Prod.mk.injEq, RS.mk.injEq] at h2
  exact ⟨h2.1, h2.2.1⟩
/-- What a reader has read is what is written of it. -/
theorem codec_again {T : Type} {one : RS → T × RS} {f : T → List UInt8} {P : T → Prop} (hc : Codec one f P) (s : List UInt8) :
    ((one ⟨s, false⟩).2.bad = true ∧ (one ⟨s, false⟩).2.rest = []) ∨ ((one ⟨s, false⟩).2.bad = false ∧ (one ⟨s, false⟩).2.rest.length ≤ s.length ∧ f (one ⟨s, false⟩).1 = s.take (s.length - (one ⟨s, false⟩).2.rest.length)) := by
  cases hb : (one ⟨s, false⟩).2.bad with
  | true => exact .inl ⟨rfl, hc.dead ⟨s, false⟩ (fun h => by cases h) hb⟩
  | false =>
    obtain ⟨_, h⟩ := hc.inv ⟨s, false⟩ hb
    replace h : s = f (one ⟨s, false⟩).1 ++ (one ⟨s, false⟩).2.rest := h
    have hl : s.length = (f (one ⟨s, false⟩).1).length + (one ⟨s, false⟩).2.rest.length := by
      rw [← List.length_append, ← h]
    refine .inr ⟨rfl, by omega, ?_⟩
    generalize one ⟨s, false⟩ = y at *
    rw [show s.length - y.2.rest.length = (f y.1).length by omega, h]
    simp
theorem numberZ_nonneg {n : Int} (h : in64 n) : 0 ≤ numberZ n ∧ in64 (numberZ n) := by
  refine ⟨?_, numberZ_in h⟩
  unfold in64 at h
  unfold numberZ
  split <;> omega
theorem equalQ_back (v : Val) (h : ValOk v) (r : List UInt8) : equalQ v ⟨writeS v ++ r, false⟩ = (true, ⟨r, false⟩) := by
  unfold equalQ writeS
  split
  · rw [codecN.back _ r (numberZ_nonneg h.n)]
    simp
  split
  · rw [codecI.back _ r h.n]
    simp
  split
  · rw [codecT.back _ r h.s]
    simp
  split
  · have := (codecL codecI).back v.l r ⟨h.l, h.ln⟩
    unfold listQ at this
    simp only [Prod.mk.injEq] at this
    rw [this.1, this.2]
    simp
  · have := (codecL codecT).back v.t r ⟨h.t, h.tn⟩
    unfold listQ at this
    simp only [Prod.mk.injEq] at this
    rw [this.1, this.2]
    simp
theorem write_prefix {v w : Val} (hv : ValOk v) (hw : ValOk w) (hk : kindZ v.kind = kindZ w.kind) {r : List UInt8} (h : writeS v ++ r = writeS w) : writeS v = writeS w := by
  have hr : r = [] := by
    unfold writeS at h
    rw [hk] at h
    split at h
    · exact (codec_prefix codecN (numberZ_nonneg hv.n) (numberZ_nonneg hw.n) h).2
    split at h
    · exact (codec_prefix codecI hv.n hw.n h).2
    split at h
    · exact (codec_prefix codecT hv.s hw.s h).2
    split at h
    · exact (codec_prefix (codecL codecI) ⟨hv.l, hv.ln⟩ ⟨hw.l, hw.ln⟩ h).2
    · exact (codec_prefix (codecL codecT) ⟨hv.t, hv.tn⟩ ⟨hw.t, hw.tn⟩ h).2
  rw [← h, hr, List.append_nil]

end Go.Proofs.YthepodkgphnibaaDoor

namespace Go.Proofs.YthepodkgphnibaaDoor
open Go.Own
set_option maxHeartbeats 1000000
set_option maxRecDepth 100000

theorem left_p (s : List UInt8) (b : Bool) : APureV Tryd.prog 28 [.rop [.str s, .bool b]] (.int .i64 s.length) := by
  refine apure_of (C := cx 8 [0, 2]) (cxOk _ _) Tryd.func28 rfl (by decide) rfl (by exact Nat.le_of_ble_eq_true rfl) (by decide) ?_
  conv => whnf
  rfl
theorem done_p (s : List UInt8) (b : Bool) : APureV Tryd.prog 29 [.rop [.str s, .bool b]] (.bool (!b && decide (s = []))) := by
  refine apure_of (C := cx 15 [0, 2]) (cxOk _ _) Tryd.func29 rfl (by decide) rfl (by exact Nat.le_of_ble_eq_true rfl) (by decide) ?_
  conv => whnf
  rfl
theorem itoa_small (n : Nat) (h : n < 10) : Lib.itoa (n : Int) = [UInt8.ofNat (48 + n)] := by
  rw [Lib.itoa_nonneg, decDigits_rec, if_pos h]
theorem itoa_300 : Lib.itoa 300 = [51, 48, 48] := by
  rw [show (300 : Int) = ((300 : Nat) : Int) from rfl, Lib.itoa_nonneg, decDigits_rec, if_neg (by decide), decDigits_rec, if_neg (by decide), decDigits_rec, if_pos (by decide)]
  rfl
theorem itoa_m (u : Nat) (h0 : 1 ≤ u) (h : u < 10) : Lib.itoa (-(u : Int)) = [45, UInt8.ofNat (48 + u)] := by
  rw [Lib.itoa_neg u h0, decDigits_rec, if_pos h]
theorem s1 : numS 0 = [48, 59] := by unfold numS intS; rw [if_neg (by decide), show (0 : Int) = ((0 : Nat) : Int) from rfl, itoa_small 0 (by decide)]; rfl
theorem s2 : numS 300 = [51, 48, 48, 59] := by unfold numS intS; rw [if_neg (by decide), itoa_300]; rfl
theorem s3 : numS (-1) = [] := by unfold numS; rw [if_pos (by decide)]
theorem s4 : intS (-7) = [45, 55, 59] := by unfold intS; rw [show (-7 : Int) = -((7 : Nat) : Int) from rfl, itoa_m 7 (by decide) (by decide)]; rfl
theorem s5 : intS 7 = [55, 59] := by unfold intS; rw [show (7 : Int) = ((7 : Nat) : Int) from rfl, itoa_small 7 (by decide)]; rfl
theorem s6 : textS [97, 44, 98] = [51, 58, 97, 44, 98, 44] := by unfold textS; rw [show ((([97, 44, 98] : List UInt8).length : Nat) : Int) = ((3 : Nat) : Int) from rfl, itoa_small 3 (by decide)]; rfl
theorem s7a : intS 1 = [49, 59] := by unfold intS; rw [show (1 : Int) = ((1 : Nat) : Int) from rfl, itoa_small 1 (by decide)]; rfl
theorem s7b : intS (-1) = [45, 49, 59] := by unfold intS; rw [show (-1 : Int) = -((1 : Nat) : Int) from rfl, itoa_m 1 (by decide) (by decide)]; rfl
theorem s7 : listS intS [1, -1] = [50, 91, 49, 59, 45, 49, 59, 93] := by
  unfold listS headS
  rw [show ((([1, -1] : List Int).length : Nat) : Int) = ((2 : Nat) : Int) from rfl, itoa_small 2 (by decide)]
  simp only [List.flatMap_cons, List.flatMap_nil, s7a, s7b]
  rfl
theorem s8 : listS textS [] = [48, 91, 93] := by
  unfold listS headS
  rw [show ((([] : List (List UInt8)).length : Nat) : Int) = ((0 : Nat) : Int) from rfl, itoa_small 0 (by decide)]
  rfl
theorem s9 : numQ 59 0 ⟨[48, 48, 55, 59], false⟩ = (0, ⟨[], true⟩) := by
  have e1 : Lib.atoiAll [48, 48, 55] = .ok 7 := by rfl
  have e2 : Lib.itoa 7 = [55] := by rw [show (7 : Int) = ((7 : Nat) : Int) from rfl, itoa_small 7 (by decide)]; rfl
  have e3 : numR 59 0 [48, 48, 55, 59] = none := by
    show (if (3 : Int) < 0 then none else match Lib.atoiAll [48, 48, 55] with
      | .ok n => if Lib.itoa n = [48, 48, 55] ∧ 0 ≤ n then some (n, []) else none
      | _ => none) = none
    rw [if_neg (by decide), e1]
    show (if Lib.itoa 7 = [48, 48, 55] ∧ (0 : Int) ≤ 7 then some ((7 : Int), ([] : List UInt8)) else none) = none
    rw [e2]
    rfl
  unfold numQ
  rw [e3]

theorem small_ok : APureV Tryd.prog 9 [] (.bool true) := by
  have i1 : in64 0 := by unfold in64; omega
  have i2 : in64 300 := by unfold in64; omega
  have i3 : in64 (-1) := by unfold in64; omega
  have i4 : in64 (-7) := by unfold in64; omega
  have i5 : in64 7 := by unfold in64; omega
  have h1 := num_ok 0 i1
  have h2 := num_ok 300 i2
  have h3 := num_ok (-1) i3
  have h4 := int_ok (-7) i4
  have h5 := int_ok 7 i5
  have h6 := text_ok [97, 44, 98] (by simp)
  have h7 := nums_ok [1, -1] (by unfold in64; simp) (by simp) (by rw [s7]; simp)
  have h8 := texts_ok [] (by simp) (by simp) (by rw [s8]; simp)
  have h9 := rnum_ok ⟨[48, 48, 55, 59], false⟩ (by simp)
  have h10 := left_p [] true
  have h11 := done_p [] true
  have h12 := open_ok [48, 48, 55, 59]
  rw [s1] at h1
  rw [s2] at h2
  rw [s3] at h3
  rw [s4] at h4
  rw [s5] at h5
  rw [s6] at h6
  rw [s7] at h7
  rw [s8] at h8
  rw [s9] at h9
  refine apure_of (C := cx 57 [0, 1, 2, 3, 4, 36]) (cxOk _ _) Tryd.func9 rfl (by decide) rfl (by exact Nat.le_of_ble_eq_true rfl) (by decide) ?_
  conv => whnf
  refine .one _ _ _ (fun _ => h1) (by repeat (first | exact .nil | (apply BorL.cons; first | exact lS rfl | exact lR rfl | exact lM rfl rfl | exact lL rfl | exact lX rfl | exact lN | exact lNl | exact lSm rfl | exact lIm rfl | exact lP rfl | exact lQ rfl | exact lB rfl rfl rfl))) (by first | exact .inl rfl | exact .inr (by repeat (first | exact flats_nil | refine flats_cons (by first | exact flat_val _ rfl | exact flat_row (fun _ => rfl) | exact flat_lst (fun _ => rfl)) ?_))) (by first | exact .inl rfl | exact .inr rfl) ?_
  conv => whnf
  refine .one _ _ _ (fun _ => h2) (by repeat (first | exact .nil | (apply BorL.cons; first | exact lS rfl | exact lR rfl | exact lM rfl rfl | exact lL rfl | exact lX rfl | exact lN | exact lNl | exact lSm rfl | exact lIm rfl | exact lP rfl | exact lQ rfl | exact lB rfl rfl rfl))) (by first | exact .inl rfl | exact .inr (by repeat (first | exact flats_nil | refine flats_cons (by first | exact flat_val _ rfl | exact flat_row (fun _ => rfl) | exact flat_lst (fun _ => rfl)) ?_))) (by first | exact .inl rfl | exact .inr rfl) ?_
  conv => whnf
  refine .one _ _ _ (fun _ => h3) (by repeat (first | exact .nil | (apply BorL.cons; first | exact lS rfl | exact lR rfl | exact lM rfl rfl | exact lL rfl | exact lX rfl | exact lN | exact lNl | exact lSm rfl | exact lIm rfl | exact lP rfl | exact lQ rfl | exact lB rfl rfl rfl))) (by first | exact .inl rfl | exact .inr (by repeat (first | exact flats_nil | refine flats_cons (by first | exact flat_val _ rfl | exact flat_row (fun _ => rfl) | exact flat_lst (fun _ => rfl)) ?_))) (by first | exact .inl rfl | exact .inr rfl) ?_
  conv => whnf
  refine .one _ _ _ (fun _ => h4) (by repeat (first | exact .nil | (apply BorL.cons; first | exact lS rfl | exact lR rfl | exact lM rfl rfl | exact lL rfl | exact lX rfl | exact lN | exact lNl | exact lSm rfl | exact lIm rfl | exact lP rfl | exact lQ rfl | exact lB rfl rfl rfl))) (by first | exact .inl rfl | exact .inr (by repeat (first | exact flats_nil | refine flats_cons (by first | exact flat_val _ rfl | exact flat_row (fun _ => rfl) | exact flat_lst (fun _ => rfl)) ?_))) (by first | exact .inl rfl | exact .inr rfl) ?_
  conv => whnf
  refine .one _ _ _ (fun _ => h5) (by repeat (first | exact .nil | (apply BorL.cons; first | exact lS rfl | exact lR rfl | exact lM rfl rfl | exact lL rfl | exact lX rfl | exact lN | exact lNl | exact lSm rfl | exact lIm rfl | exact lP rfl | exact lQ rfl | exact lB rfl rfl rfl))) (by first | exact .inl rfl | exact .inr (by repeat (first | exact flats_nil | refine flats_cons (by first | exact flat_val _ rfl | exact flat_row (fun _ => rfl) | exact flat_lst (fun _ => rfl)) ?_))) (by first | exact .inl rfl | exact .inr rfl) ?_
  conv => whnf
  refine .one _ _ _ (fun _ => h6) (by repeat (first | exact .nil | (apply BorL.cons; first | exact lS rfl | exact lR rfl | exact lM rfl rfl | exact lL rfl | exact lX rfl | exact lN | exact lNl | exact lSm rfl | exact lIm rfl | exact lP rfl | exact lQ rfl | exact lB rfl rfl rfl))) (by first | exact .inl rfl | exact .inr (by repeat (first | exact flats_nil | refine flats_cons (by first | exact flat_val _ rfl | exact flat_row (fun _ => rfl) | exact flat_lst (fun _ => rfl)) ?_))) (by first | exact .inl rfl | exact .inr rfl) ?_
  conv => whnf
  refine ⟨fun _ => ?_, fun h => absurd h (by decide)⟩
  conv => whnf
  repeat (first | (refine And.intro ⟨by omega, by omega⟩ ?_; conv => whnf) | (refine And.intro (by omega) (And.intro rfl ?_); conv => whnf) | (refine And.intro rfl ?_; conv => whnf) | (refine And.intro (fun _ => ⟨by omega, by omega⟩) ?_; conv => whnf) | (refine And.intro (fun _ => by omega) (And.intro rfl ?_); conv => whnf) | (refine And.intro ⟨(by first | omega | (simp; omega)), (by first | omega | (simp; omega))⟩ ?_; conv => whnf) | (refine Exists.intro _ (And.intro rfl (And.intro (by first | omega | (simp; omega)) (And.intro ⟨rfl, rfl, rfl, rfl, rfl⟩ ?_))); conv => whnf) | (refine And.intro ⟨rfl, rfl⟩ (And.intro (by first | omega | (simp; omega)) ?_); conv => whnf) | (refine Exists.intro _ (And.intro rfl ?_); conv => whnf) | (refine And.intro (fun _ => ?_) (fun h => absurd h (by decide)); conv => whnf) | (refine And.intro (fun h => absurd h (by decide)) (fun _ => ?_); conv => whnf) | (refine .quiet (by kernel_rfl) ?_; conv => whnf))
  refine .one _ _ _ (fun _ => h7) (by repeat (first | exact .nil | (apply BorL.cons; first | exact lS rfl | exact lR rfl | exact lM rfl rfl | exact lL rfl | exact lX rfl | exact lN | exact lNl | exact lSm rfl | exact lIm rfl | exact lP rfl | exact lQ rfl | exact lB rfl rfl rfl))) (by first | exact .inl rfl | exact .inr (by repeat (first | exact flats_nil | refine flats_cons (by first | exact flat_val _ rfl | exact flat_row (fun _ => rfl) | exact flat_lst (fun _ => rfl)) ?_))) (by first | exact .inl rfl | exact .inr rfl) ?_
  conv => whnf
  refine .one _ _ _ (fun _ => h8) (by repeat (first | exact .nil | (apply BorL.cons; first | exact lS rfl | exact lR rfl | exact lM rfl rfl | exact lL rfl | exact lX rfl | exact lN | exact lNl | exact lSm rfl | exact lIm rfl | exact lP rfl | exact lQ rfl | exact lB rfl rfl rfl))) (by first | exact .inl rfl | exact .inr (by repeat (first | exact flats_nil | refine flats_cons (by first | exact flat_val _ rfl | exact flat_row (fun _ => rfl) | exact flat_lst (fun _ => rfl)) ?_))) (by first | exact .inl rfl | exact .inr rfl) ?_
  conv => whnf
  refine .one _ _ _ (fun _ => h12) (by repeat (first | exact .nil | (apply BorL.cons; first | exact lS rfl | exact lR rfl | exact lM rfl rfl | exact lL rfl | exact lX rfl | exact lN | exact lNl | exact lSm rfl | exact lIm rfl | exact lP rfl | exact lQ rfl | exact lB rfl rfl rfl))) (by first | exact .inl rfl | exact .inr (by repeat (first | exact flats_nil | refine flats_cons (by first | exact flat_val _ rfl | exact flat_row (fun _ => rfl) | exact flat_lst (fun _ => rfl)) ?_))) (by first | exact .inl rfl | exact .inr rfl) ?_
  conv => whnf
  repeat (first | (refine And.intro ⟨by omega, by omega⟩ ?_; conv => whnf) | (refine And.intro (by omega) (And.intro rfl ?_); conv => whnf) | (refine And.intro rfl ?_; conv => whnf) | (refine And.intro (fun _ => ⟨by omega, by omega⟩) ?_; conv => whnf) | (refine And.intro (fun _ => by omega) (And.intro rfl ?_); conv => whnf) | (refine And.intro ⟨(by first | omega | (simp; omega)), (by first | omega | (simp; omega))⟩ ?_; conv => whnf) | (refine Exists.intro _ (And.intro rfl (And.intro (by first | omega | (simp; omega)) (And.intro ⟨rfl, rfl, rfl, rfl, rfl⟩ ?_))); conv => whnf) | (refine And.intro ⟨rfl, rfl⟩ (And.intro (by first | omega | (simp; omega)) ?_); conv => whnf) | (refine Exists.intro _ (And.intro rfl ?_); conv => whnf) | (refine And.intro (fun _ => ?_) (fun h => absurd h (by decide)); conv => whnf) | (refine And.intro (fun h => absurd h (by decide)) (fun _ => ?_); conv => whnf) | (refine .quiet (by kernel_rfl) ?_; conv => whnf))
  refine .raw _ _ rfl (fun h => by cases h) (callio_sem (h9) [1] _ rfl rfl ⟨rfl, trivial⟩ (by repeat (first | exact .nil | (apply BorL.cons; first | exact .map _ _ rfl | exact .ptr _ _ _ rfl | exact .own _ _ rfl | exact .fnp _ _ _ _ rfl | (apply BorIO.lend; first | exact lS rfl | exact lR rfl | exact lM rfl rfl | exact lL rfl | exact lX rfl | exact lN | exact lNl | exact lSm rfl | exact lIm rfl | exact lP rfl | exact lQ rfl | exact lB rfl rfl rfl)))) rfl (by first | exact .inl rfl | exact .inr (fun b rs h => by obtain ⟨rfl, rfl⟩ := h; exact ⟨by repeat (first | exact flats_nil | refine flats_cons (by first | exact flat_val _ rfl | exact flat_row (fun _ => rfl) | exact flat_lst (fun _ => rfl)) ?_), by repeat (first | exact flats0 | refine flats1 (by first | exact flatB_row (fun _ => rfl) | exact flatB_lst (fun _ => rfl) | exact flatB_smap (fun _ => rfl) | exact flatB_imap (fun _ => rfl) | exact flatB_cells rfl) ?_)⟩))) ?_
  rintro w ⟨b', rs, ⟨rfl, rfl⟩, rfl⟩
  refine ⟨tn_ge _ _, ?_⟩
  conv => whnf
  refine .one _ _ _ (fun _ => h10) (by repeat (first | exact .nil | (apply BorL.cons; first | exact lS rfl | exact lR rfl | exact lM rfl rfl | exact lL rfl | exact lX rfl | exact lN | exact lNl | exact lSm rfl | exact lIm rfl | exact lP rfl | exact lQ rfl | exact lB rfl rfl rfl))) (by first | exact .inl rfl | exact .inr (by repeat (first | exact flats_nil | refine flats_cons (by first | exact flat_val _ rfl | exact flat_row (fun _ => rfl) | exact flat_lst (fun _ => rfl)) ?_))) (by first | exact .inl rfl | exact .inr rfl) ?_
  conv => whnf
  refine .one _ _ _ (fun _ => h11) (by repeat (first | exact .nil | (apply BorL.cons; first | exact lS rfl | exact lR rfl | exact lM rfl rfl | exact lL rfl | exact lX rfl | exact lN | exact lNl | exact lSm rfl | exact lIm rfl | exact lP rfl | exact lQ rfl | exact lB rfl rfl rfl))) (by first | exact .inl rfl | exact .inr (by repeat (first | exact flats_nil | refine flats_cons (by first | exact flat_val _ rfl | exact flat_row (fun _ => rfl) | exact flat_lst (fun _ => rfl)) ?_))) (by first | exact .inl rfl | exact .inr rfl) ?_
  conv => whnf
  rfl

end Go.Proofs.YthepodkgphnibaaDoor
