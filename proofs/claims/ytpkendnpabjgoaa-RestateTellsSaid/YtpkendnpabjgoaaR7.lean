import Derived.Test.YtpkendnpabjgoaaR6
import Derived.Test.YtpkendnpabjgoaaOwnZ5
namespace Go.Proofs.Ytpkendnpabjgoaa
open Go.Own
set_option maxHeartbeats 1000000
set_option maxRecDepth 100000

def valuesL : List Val := [⟨[], [7]⟩, ⟨[], [8]⟩, ⟨[0, 1], []⟩, ⟨[1], []⟩]
def valuesA : List AV := [.agg [.nils, .lsl 1 [.int .i64 7]], .agg [.nils, .lsl 1 [.int .i64 8]], .agg [.lsl 1 [.int .i64 0, .int .i64 1], .nils], .agg [.lsl 1 [.int .i64 1], .nils]]
theorem values_raw : APure Try.prog 21 [] (fun rs => rs = [.new (.lst 38 2 valuesA)]) := by
  refine apure_of (C := cx 10 [0]) (cxOk _ _) Try.func21 rfl (by decide) rfl (by exact Nat.le_of_ble_eq_true rfl) (by decide) ?_
  conv => whnf
  rfl

theorem values_ok : APureV Try.prog 21 [] (encVs valuesL) := by
  refine values_raw.freeze1.leT ?_
  intro S w v h
  have h' : RelT S w v (.lsl 2 valuesA) := h
  refine .sl _ _ _ _ _ (LeT.lsl (l := valuesA) (r := valuesL.map encV) rfl (fun x hx => ?_) (fun a ha => ?_) ?_ S w v h')
  · obtain ⟨y, _, rfl⟩ := List.mem_map.1 hx
    rfl
  · obtain ⟨x, hx, hax⟩ := List.mem_flatMap.1 ha
    obtain ⟨y, _, rfl⟩ := List.mem_map.1 hx
    simp [encV, encIs, AV.cells] at hax
    rcases hax with rfl | rfl <;> rfl
  · show LeTs [.nils, .lsl 1 [.int .i64 7], .nils, .lsl 1 [.int .i64 8], .lsl 1 [.int .i64 0, .int .i64 1], .nils, .lsl 1 [.int .i64 1], .nils] [encIs [], encIs [7], encIs [], encIs [8], encIs [0, 1], encIs [], encIs [1], encIs []]
    repeat (first | exact .nil | refine .cons (by first | exact LeT.nils_sl _ _ _ | exact LeT.lsl_sl _ _ _ rfl) ?_)

theorem fits_values : FitsV valuesL := by
  refine ⟨by decide, fun v hv => ?_⟩
  simp [valuesL] at hv
  rcases hv with rfl | rfl | rfl | rfl <;> decide

end Go.Proofs.Ytpkendnpabjgoaa
