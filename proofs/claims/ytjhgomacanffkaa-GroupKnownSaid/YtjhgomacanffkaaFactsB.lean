/- What group.Choose answers at some of the calls of GroupKnown. -/
import Derived.Test.YtjhgomacanffkaaBase
namespace Go.Proofs.Ytjhgomacanffkaa
open Go Sx
noncomputable def k4 : Fact := ⟨7, [.agg [.slice 0 0 3 (.hard 3)], (.agg (List.replicate 64 (.bool false))), .int .i64 2, .int .i64 1], [([.int .i64 1, .int .u8 51, .int .i64 0, .int .u8 255, .int .i64 1, .int .u8 119], 39)], (.tup [.nilslice, .bool false]), none⟩
theorem k4_holds : k4.Holds Try.prog := Fact.holds_of_check tab_ok mixed (ks := []) (n := 100000) (fun _ h => by cases h) (by kernel_rfl)
noncomputable def k5 : Fact := ⟨7, [.agg [.nilslice], (.agg (List.replicate 64 (.bool false))), .int .i64 0, .int .i64 1], [], (.tup [.nilslice, .bool false]), none⟩
theorem k5_holds : k5.Holds Try.prog := Fact.holds_of_check tab_ok mixed (ks := []) (n := 100000) (fun _ h => by cases h) (by kernel_rfl)
noncomputable def k6 : Fact := ⟨7, [.agg [.slice 0 0 3 (.hard 3)], (.agg (List.replicate 64 (.bool false))), .int .i64 1, .int .i64 (-3)], [([.int .i64 1, .int .u8 51, .int .i64 0, .int .u8 255, .int .i64 1, .int .u8 119], 39)], (.tup [.nilslice, .bool false]), none⟩
theorem k6_holds : k6.Holds Try.prog := Fact.holds_of_check tab_ok mixed (ks := []) (n := 100000) (fun _ h => by cases h) (by kernel_rfl)
noncomputable def k7 : Fact := ⟨7, [.agg [.slice 0 0 3 (.hard 3)], (.agg (List.replicate 9 (.bool true) ++ [.bool false, .bool true, .bool false] ++ List.replicate 52 (.bool true))), .int .i64 0, .int .i64 2], [([.int .i64 1, .int .u8 51, .int .i64 0, .int .u8 255, .int .i64 1, .int .u8 119], 39)], (.tup [.slice 121 0 2 (.soft 0), .bool true]), some (121, [.int .i64 9, .int .i64 11], 3)⟩
theorem k7_holds : k7.Holds Try.prog := Fact.holds_of_check tab_ok mixed (ks := []) (n := 100000) (fun _ h => by cases h) (by kernel_rfl)
noncomputable def k8 : Fact := ⟨7, [.agg [.slice 0 0 1 (.hard 1)], (.agg (List.replicate 64 (.bool false))), .int .i64 9, .int .i64 2], [([.int .i64 9, .int .u8 3], 39)], (.tup [.slice 49 0 2 (.soft 0), .bool true]), some (49, [.int .i64 0, .int .i64 1], 3)⟩
theorem k8_holds : k8.Holds Try.prog := Fact.holds_of_check tab_ok mixed (ks := []) (n := 100000) (fun _ h => by cases h) (by kernel_rfl)
end Go.Proofs.Ytjhgomacanffkaa
