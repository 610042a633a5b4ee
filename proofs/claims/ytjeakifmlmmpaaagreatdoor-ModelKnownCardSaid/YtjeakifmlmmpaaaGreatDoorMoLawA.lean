/- Pieces of a run, each from one state to the next one: the kernel runs them. -/
import Derived.Test.YtjeakifmlmmpaaaGreatDoorMoLawSt
namespace Go.Proofs.Mo
open Go Sx Go.RowKit
theorem lc0 : chunkB R3 187 (seg lL 0 3) l0 .normal l1 = true := by kernel_rfl
theorem lc1 : chunkB R3 187 (seg lL 3 1) l1 .normal l2 = true := by kernel_rfl
theorem lc2 : chunkB R3 187 (seg lL 4 1) l2 .normal l3 = true := by kernel_rfl
theorem lc3 : chunkB R3 187 (seg lL 5 1) l3 .normal l4 = true := by kernel_rfl
theorem lc4 : chunkB R3 187 (seg lL 6 2) l4 .normal l5 = true := by kernel_rfl
theorem lc5 : chunkB R3 187 (seg lL 8 1) l5 .normal l6 = true := by kernel_rfl
theorem lc6 : chunkB R3 187 (seg lL 9 1) l6 .normal l7 = true := by kernel_rfl
theorem lc7 : chunkB R3 187 (seg lL 10 1) l7 .normal l8 = true := by kernel_rfl
theorem lc8 : chunkB R3 187 (seg lL 11 1) l8 .normal l9 = true := by kernel_rfl
theorem lc9 : chunkB R3 187 (seg lL 12 1) l9 .normal l10 = true := by kernel_rfl
theorem lc10 : chunkB R3 187 (seg lL 13 1) l10 .normal l11 = true := by kernel_rfl
theorem lc11 : chunkB R3 187 (seg lL 14 1) l11 .normal l12 = true := by kernel_rfl
theorem lc12 : chunkB R3 187 (seg lL 15 1) l12 .normal l13 = true := by kernel_rfl
theorem lc13 : chunkB R3 187 (seg lL 16 1) l13 .normal l14 = true := by kernel_rfl
theorem lc14 : chunkB R3 187 (seg lL 17 1) l14 .normal l15 = true := by kernel_rfl
theorem lc15 : chunkB R3 187 (seg lL 18 1) l15 .normal l16 = true := by kernel_rfl
theorem lc16 : chunkB R3 187 (seg lL 19 1) l16 .normal l17 = true := by kernel_rfl
theorem lc17 : chunkB R3 187 (seg lL 20 1) l17 .normal l18 = true := by kernel_rfl
theorem lc18 : chunkB R3 187 (seg lL 21 1) l18 .normal l19 = true := by kernel_rfl
theorem lc19 : lastB tab R3 Tryz.f6 187 (lL.drop 22) l19 (.bool true) g0L = true := by kernel_rfl
end Go.Proofs.Mo
