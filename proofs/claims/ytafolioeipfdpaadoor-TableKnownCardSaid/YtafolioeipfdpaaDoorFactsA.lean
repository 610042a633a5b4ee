/- What works of TableKnown answers. -/
import Derived.Test.YtafolioeipfdpaaDoorBase
namespace Go.Proofs.YtafolioeipfdpaaDoor
open Go Sx
noncomputable def kw : Fact := ⟨10, [], [], .bool true, none⟩
theorem kw_holds : kw.Holds Tryd.prog := Fact.holds_of_check tab_ok mixed (ks := []) (n := 100000) (fun _ h => by cases h) (by kernel_rfl)
end Go.Proofs.YtafolioeipfdpaaDoor
