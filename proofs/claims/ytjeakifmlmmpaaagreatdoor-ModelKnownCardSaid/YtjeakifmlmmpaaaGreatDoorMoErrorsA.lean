/- Pieces of a run, each from one state to the next one: the kernel runs them. -/
import Derived.Test.YtjeakifmlmmpaaaGreatDoorMoErrorsSt
namespace Go.Proofs.Mo
open Go Sx Go.RowKit
theorem ec0 : chunkB R2 154 (seg eL 0 4) e0 .normal e1 = true := by kernel_rfl
theorem ec1 : chunkB R2 154 (seg eL 4 1) e1 .normal e2 = true := by kernel_rfl
theorem ec2 : chunkB R2 154 (seg eL 5 1) e2 .normal e3 = true := by kernel_rfl
theorem ec3 : chunkB R2 154 (seg eL 6 1) e3 .normal e4 = true := by kernel_rfl
theorem ec4 : chunkB R2 154 (seg eL 7 1) e4 .normal e5 = true := by kernel_rfl
theorem ec5 : chunkB R2 154 (seg eL 8 1) e5 .normal e6 = true := by kernel_rfl
theorem ec6 : chunkB R2 154 (seg eL 9 1) e6 .normal e7 = true := by kernel_rfl
theorem ec7 : chunkB R2 154 [loopAt eL 10] e7 .normal e8 = true := by kernel_rfl
theorem ec8 : chunkB R2 154 [loopAt eL 10] e8 .normal e9 = true := by kernel_rfl
theorem ec9 : chunkB R2 154 [loopAt eL 10] e9 .normal e10 = true := by kernel_rfl
theorem ec10 : chunkB R2 154 [loopAt eL 10] e10 .normal e11 = true := by kernel_rfl
theorem ec11 : chunkB R2 154 [loopAt eL 10] e11 .normal e12 = true := by kernel_rfl
theorem ec12 : chunkB R2 154 [loopAt eL 10] e12 .normal e13 = true := by kernel_rfl
theorem ec13 : chunkB R2 154 [loopAt eL 10] e13 .normal e14 = true := by kernel_rfl
theorem ec14 : chunkB R2 154 [loopAt eL 10] e14 .normal e15 = true := by kernel_rfl
theorem ec15 : chunkB R2 154 [loopAt eL 10] e15 .normal e16 = true := by kernel_rfl
end Go.Proofs.Mo
