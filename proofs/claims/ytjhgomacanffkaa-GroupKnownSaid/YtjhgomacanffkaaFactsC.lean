/- What group.Choose answers at some of the calls of GroupKnown. -/
import Derived.Test.YtjhgomacanffkaaBase
namespace Go.Proofs.Ytjhgomacanffkaa
open Go Sx
noncomputable def k9 : Fact := ⟨7, [.agg [.slice 0 0 2 (.hard 2)], (.agg (List.replicate 64 (.bool false))), .int .i64 0, .int .i64 3], [([.int .i64 0, .int .u8 255, .int .i64 0, .int .u8 7], 39)], (.tup [.slice 143 0 3 (.soft 0), .bool true]), some (143, [.int .i64 8, .int .i64 9, .int .i64 10], 3)⟩
theorem k9_holds : k9.Holds Try.prog := Fact.holds_of_check tab_ok mixed (ks := []) (n := 100000) (fun _ h => by cases h) (by kernel_rfl)
noncomputable def k10 : Fact := ⟨7, [.agg [.slice 0 0 2 (.hard 2)], (.agg (List.replicate 64 (.bool false))), .int .i64 0, .int .i64 4], [([.int .i64 0, .int .u8 255, .int .i64 0, .int .u8 7], 39)], (.tup [.slice 143 0 4 (.soft 0), .bool true]), some (143, [.int .i64 0, .int .i64 1, .int .i64 2, .int .i64 3], 3)⟩
theorem k10_holds : k10.Holds Try.prog := Fact.holds_of_check tab_ok mixed (ks := []) (n := 100000) (fun _ h => by cases h) (by kernel_rfl)
noncomputable def k11 : Fact := ⟨7, [.agg [.slice 0 0 2 (.hard 2)], (.agg (List.replicate 64 (.bool false))), .int .i64 0, .int .i64 9], [([.int .i64 0, .int .u8 255, .int .i64 0, .int .u8 7], 39)], (.tup [.slice 182 0 9 (.soft 0), .bool true]), some (182, [.int .i64 0, .int .i64 1, .int .i64 2, .int .i64 3, .int .i64 4, .int .i64 5, .int .i64 6, .int .i64 7, .int .i64 8], 3)⟩
theorem k11_holds : k11.Holds Try.prog := Fact.holds_of_check tab_ok mixed (ks := []) (n := 100000) (fun _ h => by cases h) (by kernel_rfl)
end Go.Proofs.Ytjhgomacanffkaa
