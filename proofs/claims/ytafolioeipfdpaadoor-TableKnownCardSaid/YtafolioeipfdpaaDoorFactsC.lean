/- What read answers at some of the texts of TableKnown. -/
import Derived.Test.YtafolioeipfdpaaDoorBase
namespace Go.Proofs.YtafolioeipfdpaaDoor
open Go Sx
noncomputable def r3 : Fact := ⟨20, [.str (List.replicate 238 0 ++ [0, 1])], [], (.tup [.agg (List.replicate 119 (.int .u16 0) ++ [.int .u16 1]), .iface 52 (.ptr 122 0)]), some (122, [.int .i64 5, .int .i64 238], 40)⟩
theorem r3_holds : r3.Holds Tryd.prog := Fact.holds_of_check tab_ok mixed (ks := []) (n := 100000) (fun _ h => by cases h) (by kernel_rfl)
noncomputable def r0 : Fact := ⟨20, [.str (List.replicate 240 0)], [], (.tup [.agg (List.replicate 120 (.int .u16 0)), .nilif]), none⟩
theorem r0_holds : r0.Holds Tryd.prog := Fact.holds_of_check tab_ok mixed (ks := []) (n := 100000) (fun _ h => by cases h) (by kernel_rfl)
end Go.Proofs.YtafolioeipfdpaaDoor
