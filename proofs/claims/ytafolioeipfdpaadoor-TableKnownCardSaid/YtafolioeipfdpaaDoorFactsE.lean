/- What a method of an empty table answers. -/
import Derived.Test.YtafolioeipfdpaaDoorBase
namespace Go.Proofs.YtafolioeipfdpaaDoor
open Go Sx
noncomputable def kC : Fact := ⟨14, [.ptr 0 0, .int .i64 0], [(List.replicate 960 (.int .u16 0) ++ [.int .u64 0], 46)], .str (List.replicate 240 0), none⟩
theorem kC_holds : kC.Holds Tryd.prog := Fact.holds_of_check tab_ok mixed (ks := []) (n := 100000) (fun _ h => by cases h) (by kernel_rfl)
end Go.Proofs.YtafolioeipfdpaaDoor
