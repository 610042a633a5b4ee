/- Pieces of a run, each from one state to the next one: the kernel runs them. -/
import Derived.Test.YtjeakifmlmmpaaaGreatDoorMoErrorsSt
namespace Go.Proofs.Mo
open Go Sx Go.RowKit
theorem ec32 : chunkB R2 154 [loopAt eL 10] e32 .normal e33 = true := by kernel_rfl
theorem ec33 : chunkB R2 154 [loopAt eL 10] e33 .normal e34 = true := by kernel_rfl
theorem ec34 : chunkB R2 154 [loopAt eL 10] e34 (.exit 0) e35 = true := by kernel_rfl
theorem ec35 : chunkB R2 154 (seg eL 11 1) e35 .normal e36 = true := by kernel_rfl
theorem ec36 : chunkB R2 154 [loopAt eL 12] e36 .normal e37 = true := by kernel_rfl
theorem ec37 : chunkB R2 154 [loopAt eL 12] e37 .normal e38 = true := by kernel_rfl
theorem ec38 : chunkB R2 154 [loopAt eL 12] e38 .normal e39 = true := by kernel_rfl
theorem ec39 : chunkB R2 154 [loopAt eL 12] e39 (.exit 2) e40 = true := by kernel_rfl
theorem ec40 : chunkB R2 154 (seg eL 13 1) e40 .normal e41 = true := by kernel_rfl
theorem ec41 : chunkB R2 154 (seg eL 14 1) e41 .normal e42 = true := by kernel_rfl
theorem ec42 : chunkB R2 154 (seg eL 15 1) e42 .normal e43 = true := by kernel_rfl
theorem ec43 : chunkB R2 154 (seg eL 16 1) e43 .normal e44 = true := by kernel_rfl
theorem ec44 : chunkB R2 154 (seg eL 17 1) e44 .normal e45 = true := by kernel_rfl
theorem ec45 : chunkB R2 154 (seg eL 18 1) e45 .normal e46 = true := by kernel_rfl
theorem ec46 : lastB tab R2 Tryz.f30 154 (eL.drop 19) e46 (.bool true) g0L = true := by kernel_rfl
end Go.Proofs.Mo
