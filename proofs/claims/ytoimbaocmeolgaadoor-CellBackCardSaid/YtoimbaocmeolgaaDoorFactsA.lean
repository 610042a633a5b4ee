/- What sum.Of answers at some of the sectors of CellKnown. -/
import Derived.Test.YtoimbaocmeolgaaDoorBase
namespace Go.Proofs.YtoimbaocmeolgaaDoor
open Go Sx
noncomputable def s0 : Fact := ⟨15, [.str (List.replicate 252 0)], [], .int .u32 16515073, none⟩
theorem s0_holds : s0.Holds Tryd.prog := Fact.holds_of_check tab_ok mixed (ks := []) (n := 100000) (fun _ h => by cases h) (by kernel_rfl)
noncomputable def s1 : Fact := ⟨15, [.str ([2, 2, 97, 98] ++ List.replicate 248 0)], [], .int .u32 3270901960, none⟩
theorem s1_holds : s1.Holds Tryd.prog := Fact.holds_of_check tab_ok mixed (ks := []) (n := 100000) (fun _ h => by cases h) (by kernel_rfl)
noncomputable def s2 : Fact := ⟨15, [.str ([1, 241] ++ List.replicate 250 0)], [], .int .u32 3997368563, none⟩
theorem s2_holds : s2.Holds Tryd.prog := Fact.holds_of_check tab_ok mixed (ks := []) (n := 100000) (fun _ h => by cases h) (by kernel_rfl)
noncomputable def s3 : Fact := ⟨15, [.str ([1, 2, 0, 0, 7] ++ List.replicate 247 0)], [], .int .u32 179699723, none⟩
theorem s3_holds : s3.Holds Tryd.prog := Fact.holds_of_check tab_ok mixed (ks := []) (n := 100000) (fun _ h => by cases h) (by kernel_rfl)
end Go.Proofs.YtoimbaocmeolgaaDoor
