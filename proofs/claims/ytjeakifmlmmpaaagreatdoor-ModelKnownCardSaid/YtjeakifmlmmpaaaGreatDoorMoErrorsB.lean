/- Pieces of a run, each from one state to the next one: the kernel runs them. -/
import Derived.Test.YtjeakifmlmmpaaaGreatDoorMoErrorsSt
namespace Go.Proofs.Mo
open Go Sx Go.RowKit
theorem ec16 : chunkB R2 154 [loopAt eL 10] e16 .normal e17 = true := by kernel_rfl
theorem ec17 : chunkB R2 154 [loopAt eL 10] e17 .normal e18 = true := by kernel_rfl
theorem ec18 : chunkB R2 154 [loopAt eL 10] e18 .normal e19 = true := by kernel_rfl
theorem ec19 : chunkB R2 154 [loopAt eL 10] e19 .normal e20 = true := by kernel_rfl
theorem ec20 : chunkB R2 154 [loopAt eL 10] e20 .normal e21 = true := by kernel_rfl
theorem ec21 : chunkB R2 154 [loopAt eL 10] e21 .normal e22 = true := by kernel_rfl
theorem ec22 : chunkB R2 154 [loopAt eL 10] e22 .normal e23 = true := by kernel_rfl
theorem ec23 : chunkB R2 154 [loopAt eL 10] e23 .normal e24 = true := by kernel_rfl
theorem ec24 : chunkB R2 154 [loopAt eL 10] e24 .normal e25 = true := by kernel_rfl
theorem ec25 : chunkB R2 154 [loopAt eL 10] e25 .normal e26 = true := by kernel_rfl
theorem ec26 : chunkB R2 154 [loopAt eL 10] e26 .normal e27 = true := by kernel_rfl
theorem ec27 : chunkB R2 154 [loopAt eL 10] e27 .normal e28 = true := by kernel_rfl
theorem ec28 : chunkB R2 154 [loopAt eL 10] e28 .normal e29 = true := by kernel_rfl
theorem ec29 : chunkB R2 154 [loopAt eL 10] e29 .normal e30 = true := by kernel_rfl
theorem ec30 : chunkB R2 154 [loopAt eL 10] e30 .normal e31 = true := by kernel_rfl
theorem ec31 : chunkB R2 154 [loopAt eL 10] e31 .normal e32 = true := by kernel_rfl
end Go.Proofs.Mo
