/- What sum.Of answers at some of the sectors of CellKnown. -/
import Derived.Test.YtoimbaocmeolgaaDoorBase
namespace Go.Proofs.YtoimbaocmeolgaaDoor
open Go Sx
noncomputable def s4 : Fact := ⟨15, [.str ([1, 240] ++ List.replicate 249 0 ++ [5])], [], .int .u32 3981246711, none⟩
theorem s4_holds : s4.Holds Tryd.prog := Fact.holds_of_check tab_ok mixed (ks := []) (n := 100000) (fun _ h => by cases h) (by kernel_rfl)
noncomputable def s5 : Fact := ⟨15, [.str ([255, 240] ++ List.replicate 250 0)], [], .int .u32 3881763312, none⟩
theorem s5_holds : s5.Holds Tryd.prog := Fact.holds_of_check tab_ok mixed (ks := []) (n := 100000) (fun _ h => by cases h) (by kernel_rfl)
noncomputable def s6 : Fact := ⟨15, [.str ([1] ++ List.replicate 251 0)], [], .int .u32 33030146, none⟩
theorem s6_holds : s6.Holds Tryd.prog := Fact.holds_of_check tab_ok mixed (ks := []) (n := 100000) (fun _ h => by cases h) (by kernel_rfl)
end Go.Proofs.YtoimbaocmeolgaaDoor
