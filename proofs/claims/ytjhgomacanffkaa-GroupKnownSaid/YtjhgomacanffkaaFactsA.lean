/- What group.Choose answers at some of the calls of GroupKnown. -/
import Derived.Test.YtjhgomacanffkaaBase
namespace Go.Proofs.Ytjhgomacanffkaa
open Go Sx
noncomputable def k0 : Fact := ⟨7, [.agg [.slice 0 0 3 (.hard 3)], (.agg (List.replicate 64 (.bool false))), .int .i64 1, .int .i64 2], [([.int .i64 1, .int .u8 51, .int .i64 0, .int .u8 255, .int .i64 1, .int .u8 119], 39)], (.tup [.slice 235 0 2 (.soft 0), .bool true]), some (235, [.int .i64 0, .int .i64 1], 3)⟩
theorem k0_holds : k0.Holds Try.prog := Fact.holds_of_check tab_ok mixed (ks := []) (n := 100000) (fun _ h => by cases h) (by kernel_rfl)
noncomputable def k1 : Fact := ⟨7, [.agg [.slice 0 0 3 (.hard 3)], (.agg (List.replicate 64 (.bool false))), .int .i64 1, .int .i64 3], [([.int .i64 1, .int .u8 51, .int .i64 0, .int .u8 255, .int .i64 1, .int .u8 119], 39)], (.tup [.slice 233 0 3 (.soft 0), .bool true]), some (233, [.int .i64 16, .int .i64 17, .int .i64 18], 3)⟩
theorem k1_holds : k1.Holds Try.prog := Fact.holds_of_check tab_ok mixed (ks := []) (n := 100000) (fun _ h => by cases h) (by kernel_rfl)
noncomputable def k2 : Fact := ⟨7, [.agg [.slice 0 0 3 (.hard 3)], (.agg (List.replicate 64 (.bool false))), .int .i64 1, .int .i64 5], [([.int .i64 1, .int .u8 51, .int .i64 0, .int .u8 255, .int .i64 1, .int .u8 119], 39)], (.tup [.slice 285 0 5 (.soft 0), .bool true]), some (285, [.int .i64 0, .int .i64 1, .int .i64 16, .int .i64 17, .int .i64 18], 3)⟩
theorem k2_holds : k2.Holds Try.prog := Fact.holds_of_check tab_ok mixed (ks := []) (n := 100000) (fun _ h => by cases h) (by kernel_rfl)
noncomputable def k3 : Fact := ⟨7, [.agg [.slice 0 0 3 (.hard 3)], (.agg (List.replicate 64 (.bool false))), .int .i64 1, .int .i64 9], [([.int .i64 1, .int .u8 51, .int .i64 0, .int .u8 255, .int .i64 1, .int .u8 119], 39)], (.tup [.slice 357 0 9 (.soft 0), .bool true]), some (357, [.int .i64 0, .int .i64 1, .int .i64 4, .int .i64 16, .int .i64 17, .int .i64 18, .int .i64 20, .int .i64 21, .int .i64 22], 3)⟩
theorem k3_holds : k3.Holds Try.prog := Fact.holds_of_check tab_ok mixed (ks := []) (n := 100000) (fun _ h => by cases h) (by kernel_rfl)
end Go.Proofs.Ytjhgomacanffkaa
