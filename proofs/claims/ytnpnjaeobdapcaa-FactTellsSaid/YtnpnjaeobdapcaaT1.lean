import Derived.Test.YtnpnjaeobdapcaaProg
import Derived.Test.YtnpnjaeobdapcaaOwnY
import Derived.KernelRfl
namespace Go.Proofs.Ytnpnjaeobdapcaa
open Go.Own
/-- What is told of the types. -/
def tab : Tab := [
  (3, { desc := .int .i64, size := 1, bytes := 8, zero := .int .i64 0 }),
  (4, { desc := .bool, size := 1, bytes := 1, zero := .bool false }),
  (5, { desc := .int .u8, size := 1, bytes := 1, zero := .int .u8 0 }),
  (9, { desc := .string, size := 1, bytes := 16, zero := .string ⟨#[]⟩ }),
  (22, { desc := .slice 24, size := 1, bytes := 24, zero := .slice none 0 0 }),
  (23, { desc := .struct #[{ name := "Issuer", type := 3, offset := 0, embedded := false, tag := "", pkgPath := "", byteOffset := 0 }, { name := "Name", type := 9, offset := 1, embedded := false, tag := "", pkgPath := "", byteOffset := 8 }, { name := "Period", type := 3, offset := 2, embedded := false, tag := "", pkgPath := "", byteOffset := 24 }, { name := "Value", type := 3, offset := 3, embedded := false, tag := "", pkgPath := "", byteOffset := 32 }, { name := "Day", type := 3, offset := 4, embedded := false, tag := "", pkgPath := "", byteOffset := 40 }], size := 5, bytes := 48, zero := .agg #[.int .i64 0, .string ⟨#[]⟩, .int .i64 0, .int .i64 0, .int .i64 0] }),
  (24, { desc := .struct #[{ name := "Issuer", type := 3, offset := 0, embedded := false, tag := "", pkgPath := "", byteOffset := 0 }, { name := "Name", type := 9, offset := 1, embedded := false, tag := "", pkgPath := "", byteOffset := 8 }, { name := "Period", type := 3, offset := 2, embedded := false, tag := "", pkgPath := "", byteOffset := 24 }, { name := "Value", type := 3, offset := 3, embedded := false, tag := "", pkgPath := "", byteOffset := 32 }, { name := "Day", type := 3, offset := 4, embedded := false, tag := "", pkgPath := "", byteOffset := 40 }], size := 5, bytes := 48, zero := .agg #[.int .i64 0, .string ⟨#[]⟩, .int .i64 0, .int .i64 0, .int .i64 0] }),
  (27, { desc := .int .i64, size := 1, bytes := 8, zero := .int .i64 0 }),
  (36, { desc := .slice 9, size := 1, bytes := 24, zero := .slice none 0 0 }),
  (37, { desc := .slice 3, size := 1, bytes := 24, zero := .slice none 0 0 }),
  (50, { desc := .map 9 24, size := 1, bytes := 8, zero := .map none })]

theorem tabOk : TabOk Try.prog tab := tabOk_of ⟨by kernel_rfl, by kernel_rfl, by kernel_rfl, by kernel_rfl, by kernel_rfl, by kernel_rfl, by kernel_rfl, by kernel_rfl, by kernel_rfl, by kernel_rfl, by kernel_rfl, trivial⟩

theorem mixed : Try.prog.follows .mixedOrders = true := by kernel_rfl

noncomputable abbrev cx (N : Nat) (keep : List Nat) : Cx := ⟨Try.prog, tab, N, keep⟩
theorem cxOk (N : Nat) (keep : List Nat) : CxOk (cx N keep) := ⟨tabOk, mixed⟩

structure Fact where
  issuer : Int
  name : List UInt8
  period : Int
  value : Int
  day : Int
def encF (f : Fact) : AV := .agg [.int .i64 f.issuer, .str f.name, .int .i64 f.period, .int .i64 f.value, .int .i64 f.day]


def encFs (l : List Fact) : AV := .sl 5 encF ⟨0, [], 0, 0, 0⟩ l


instance : Inhabited Fact := ⟨⟨0, [], 0, 0, 0⟩⟩
def fewB (l : List Fact) (n : Int) : Bool := decide ((l.length : Int) ≤ n) && l.all fun f => decide (f.name.length ≤ 40)

set_option maxHeartbeats 400000 in
theorem few_ok (l : List Fact) (n : Int) (hl : l.length ≤ 9223372036854775807) (h0 : 0 ≤ n) (hn : n ≤ 1000) : APureV Try.prog 8 [encFs l, .int .i64 n] (.bool (fewB l n)) := by
  refine apure_of (C := cx 28 [0, 1, 4, 5, 14, 23]) (cxOk _ _) Try.func8 rfl (by decide) rfl (by exact Nat.le_of_ble_eq_true rfl) (by decide) ?_
  conv => whnf
  refine loop_inv (cxOk _ _) (σ := Nat) (fun k => (k ≤ l.length ∧ k ≤ n + 1) ∧ ∀ i < k, (l.getD i ⟨0, [], 0, 0, 0⟩).name.length ≤ 40) (fun k => l.length - k) (fun k => ⟨[(0, encFs l), (1, .int .i64 n), (5, .int .i64 k)], [], 0⟩) 0 ⟨⟨Nat.zero_le _, by omega⟩, fun i hi => by omega⟩ ?_ ?_
  · exact wk_of [] rfl ⟨.base (.tree _ _ rfl rfl), .base (.tree _ _ rfl rfl), .base (.tree _ _ rfl rfl), trivial⟩ trivial
  · rintro k ⟨⟨hk, hkn⟩, hall⟩
    conv => whnf
    refine ⟨fun hc => ?_, fun hc => ?_⟩
    · simp only [Bool.and_eq_true, decide_eq_true_eq] at hc
      conv => whnf
      refine ⟨by constructor <;> omega, ?_⟩
      conv => whnf
      refine ⟨rfl, ?_⟩
      conv => whnf
      refine ⟨fun hd => ?_, fun hd => ?_⟩
      · conv => whnf
        simp only [Int.toNat_natCast, decide_eq_true_eq] at hd
        have : fewB l n = false := by
          cases h : fewB l n with
          | false => rfl
          | true =>
            simp only [fewB, Bool.and_eq_true, List.all_eq_true, decide_eq_true_eq] at h
            have := h.2 _ (getD_mem (d := ⟨0, [], 0, 0, 0⟩) (show k < l.length by omega))
            omega
        rw [this]
        rfl
      · conv => whnf
        simp only [Int.toNat_natCast, decide_eq_false_iff_not] at hd
        refine ⟨by constructor <;> omega, ?_⟩
        conv => whnf
        refine ⟨k + 1, ⟨⟨by omega, by omega⟩, fun i hi => ?_⟩, by show l.length - (k + 1) < l.length - k; omega, wk_of [] rfl ⟨.base (.tree _ _ rfl rfl), .base (.tree _ _ rfl rfl), .base (.tree _ _ rfl rfl), trivial⟩ trivial⟩
        by_cases e : i = k
        · subst e; omega
        · exact hall i (by omega)
    · conv => whnf
      simp only [Bool.and_eq_false_iff, decide_eq_false_iff_not] at hc
      have : fewB l n = decide ((l.length : Int) ≤ n) := by
        by_cases h : (l.length : Int) ≤ n
        · have hkl : k = l.length := by omega
          have : (l.all fun f => decide (f.name.length ≤ 40)) = true := by
            simp only [List.all_eq_true, decide_eq_true_eq]
            intro f hf
            obtain ⟨i, hi, rfl⟩ := mem_getD (d := (⟨0, [], 0, 0, 0⟩ : Fact)) hf
            exact hall i (by omega)
          simp [fewB, h, this]
        · simp [fewB, h]
      rw [this]
      rfl

end Go.Proofs.Ytnpnjaeobdapcaa
