/- What group.Choose answers at some of the calls of GroupKnown. -/
import Derived.Test.YtjhgomacanffkaaBase
namespace Go.Proofs.Ytjhgomacanffkaa
open Go Sx
noncomputable def k12 : Fact := ⟨7, [.agg [.slice 0 0 2 (.hard 2)], (.agg ([.bool false, .bool false, .bool false, .bool true] ++ List.replicate 60 (.bool false))), .int .i64 0, .int .i64 5], [([.int .i64 0, .int .u8 255, .int .i64 0, .int .u8 7], 39)], (.tup [.slice 181 0 5 (.soft 0), .bool true]), some (181, [.int .i64 0, .int .i64 4, .int .i64 5, .int .i64 6, .int .i64 7], 3)⟩
theorem k12_holds : k12.Holds Try.prog := Fact.holds_of_check tab_ok mixed (ks := []) (n := 100000) (fun _ h => by cases h) (by kernel_rfl)
noncomputable def k13 : Fact := ⟨7, [.agg [.slice 0 0 2 (.hard 2)], (.agg (List.replicate 64 (.bool false))), .int .i64 0, .int .i64 12], [([.int .i64 0, .int .u8 255, .int .i64 0, .int .u8 7], 39)], (.tup [.nilslice, .bool false]), none⟩
theorem k13_holds : k13.Holds Try.prog := Fact.holds_of_check tab_ok mixed (ks := []) (n := 100000) (fun _ h => by cases h) (by kernel_rfl)
noncomputable def k14 : Fact := ⟨7, [.agg [.slice 0 0 2 (.hard 2)], (.agg (List.replicate 64 (.bool false))), .int .i64 0, .int .i64 0], [([.int .i64 0, .int .u8 255, .int .i64 0, .int .u8 7], 39)], (.tup [.nilslice, .bool false]), none⟩
theorem k14_holds : k14.Holds Try.prog := Fact.holds_of_check tab_ok mixed (ks := []) (n := 100000) (fun _ h => by cases h) (by kernel_rfl)
end Go.Proofs.Ytjhgomacanffkaa
