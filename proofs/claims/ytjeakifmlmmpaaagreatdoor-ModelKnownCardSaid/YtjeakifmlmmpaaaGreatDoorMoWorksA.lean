/- Pieces of a run, each from one state to the next one: the kernel runs them. -/
import Derived.Test.YtjeakifmlmmpaaaGreatDoorMoWorksSt
namespace Go.Proofs.Mo
open Go Sx Go.RowKit
theorem wc0 : chunkB R2 102 (seg wL 0 4) w0 .normal w1 = true := by kernel_rfl
theorem wc1 : chunkB R2 102 (seg wL 4 1) w1 .normal w2 = true := by kernel_rfl
theorem wc2 : chunkB R2 102 (seg wL 5 1) w2 .normal w3 = true := by kernel_rfl
theorem wc3 : chunkB R2 102 (seg wL 6 1) w3 .normal w4 = true := by kernel_rfl
theorem wc4 : chunkB R2 102 (seg wL 7 1) w4 .normal w5 = true := by kernel_rfl
theorem wc5 : chunkB R2 102 (seg wL 8 1) w5 .normal w6 = true := by kernel_rfl
theorem wc6 : chunkB R2 102 (seg wL 9 1) w6 .normal w7 = true := by kernel_rfl
theorem wc7 : chunkB R2 102 (seg wL 10 1) w7 .normal w8 = true := by kernel_rfl
theorem wc8 : chunkB R2 102 (seg wL 11 1) w8 .normal w9 = true := by kernel_rfl
theorem wc9 : chunkB R2 102 (seg wL 12 1) w9 .normal w10 = true := by kernel_rfl
theorem wc10 : chunkB R2 102 (seg wL 13 1) w10 .normal w11 = true := by kernel_rfl
theorem wc11 : lastB tab R2 Tryz.f8 102 (wL.drop 14) w11 (.bool true) g0L = true := by kernel_rfl
end Go.Proofs.Mo
