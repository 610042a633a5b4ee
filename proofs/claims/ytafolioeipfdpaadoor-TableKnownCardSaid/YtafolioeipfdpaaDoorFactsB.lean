/- What read answers at some of the texts of TableKnown. -/
import Derived.Test.YtafolioeipfdpaaDoorBase
namespace Go.Proofs.YtafolioeipfdpaaDoor
open Go Sx
noncomputable def r1 : Fact := ⟨20, [.str (List.replicate 238 0 ++ [3, 255])], [], (.tup [.agg (List.replicate 119 (.int .u16 0) ++ [.int .u16 1023]), .nilif]), none⟩
theorem r1_holds : r1.Holds Tryd.prog := Fact.holds_of_check tab_ok mixed (ks := []) (n := 100000) (fun _ h => by cases h) (by kernel_rfl)
noncomputable def r2 : Fact := ⟨20, [.str (List.replicate 4 0 ++ [4, 0] ++ List.replicate 234 0)], [], (.tup [.agg (List.replicate 2 (.int .u16 0) ++ [.int .u16 1024] ++ List.replicate 117 (.int .u16 0)), .iface 52 (.ptr 5 0)]), some (5, [.int .i64 5, .int .i64 4], 40)⟩
theorem r2_holds : r2.Holds Tryd.prog := Fact.holds_of_check tab_ok mixed (ks := []) (n := 100000) (fun _ h => by cases h) (by kernel_rfl)
noncomputable def r4 : Fact := ⟨20, [.str (List.replicate 2 0 ++ [255, 255] ++ List.replicate 236 0)], [], (.tup [.agg (List.replicate 1 (.int .u16 0) ++ [.int .u16 65535] ++ List.replicate 118 (.int .u16 0)), .iface 52 (.ptr 4 0)]), some (4, [.int .i64 5, .int .i64 2], 40)⟩
theorem r4_holds : r4.Holds Tryd.prog := Fact.holds_of_check tab_ok mixed (ks := []) (n := 100000) (fun _ h => by cases h) (by kernel_rfl)
end Go.Proofs.YtafolioeipfdpaaDoor
