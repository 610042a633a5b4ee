/- What group.Choose answers at the calls of the laws' works. -/
import Derived.Test.YtjhgomacanffkaaGBase
namespace Go.Proofs.Ytjhgomacanffkaa
open Go Sx
noncomputable def k9 : Fact := ⟨7, [.agg [.slice 0 0 2 (.hard 2)], (.agg (List.replicate 64 (.bool false))), .int .i64 0, .int .i64 3], [([.int .i64 0, .int .u8 255, .int .i64 0, .int .u8 7], 39)], (.tup [.slice 143 0 3 (.soft 0), .bool true]), some (143, [.int .i64 8, .int .i64 9, .int .i64 10], 3)⟩
theorem k9_holds : k9.Holds Try.prog := Fact.holds_of_check tab_ok mixed (ks := []) (n := 100000) (fun _ h => by cases h) (by kernel_rfl)
noncomputable def k10 : Fact := ⟨7, [.agg [.slice 0 0 2 (.hard 2)], (.agg (List.replicate 64 (.bool false))), .int .i64 0, .int .i64 4], [([.int .i64 0, .int .u8 255, .int .i64 0, .int .u8 7], 39)], (.tup [.slice 143 0 4 (.soft 0), .bool true]), some (143, [.int .i64 0, .int .i64 1, .int .i64 2, .int .i64 3], 3)⟩
theorem k10_holds : k10.Holds Try.prog := Fact.holds_of_check tab_ok mixed (ks := []) (n := 100000) (fun _ h => by cases h) (by kernel_rfl)
noncomputable def k11 : Fact := ⟨7, [.agg [.slice 0 0 2 (.hard 2)], (.agg (List.replicate 64 (.bool false))), .int .i64 0, .int .i64 9], [([.int .i64 0, .int .u8 255, .int .i64 0, .int .u8 7], 39)], (.tup [.slice 182 0 9 (.soft 0), .bool true]), some (182, [.int .i64 0, .int .i64 1, .int .i64 2, .int .i64 3, .int .i64 4, .int .i64 5, .int .i64 6, .int .i64 7, .int .i64 8], 3)⟩
theorem k11_holds : k11.Holds Try.prog := Fact.holds_of_check tab_ok mixed (ks := []) (n := 100000) (fun _ h => by cases h) (by kernel_rfl)
noncomputable def k12 : Fact := ⟨7, [.agg [.slice 0 0 2 (.hard 2)], (.agg ([.bool false, .bool false, .bool false, .bool true] ++ List.replicate 60 (.bool false))), .int .i64 0, .int .i64 5], [([.int .i64 0, .int .u8 255, .int .i64 0, .int .u8 7], 39)], (.tup [.slice 181 0 5 (.soft 0), .bool true]), some (181, [.int .i64 0, .int .i64 4, .int .i64 5, .int .i64 6, .int .i64 7], 3)⟩
theorem k12_holds : k12.Holds Try.prog := Fact.holds_of_check tab_ok mixed (ks := []) (n := 100000) (fun _ h => by cases h) (by kernel_rfl)
noncomputable def k13 : Fact := ⟨7, [.agg [.slice 0 0 2 (.hard 2)], (.agg (List.replicate 64 (.bool false))), .int .i64 0, .int .i64 12], [([.int .i64 0, .int .u8 255, .int .i64 0, .int .u8 7], 39)], (.tup [.nilslice, .bool false]), none⟩
theorem k13_holds : k13.Holds Try.prog := Fact.holds_of_check tab_ok mixed (ks := []) (n := 100000) (fun _ h => by cases h) (by kernel_rfl)
noncomputable def k14 : Fact := ⟨7, [.agg [.slice 0 0 2 (.hard 2)], (.agg (List.replicate 64 (.bool false))), .int .i64 0, .int .i64 0], [([.int .i64 0, .int .u8 255, .int .i64 0, .int .u8 7], 39)], (.tup [.nilslice, .bool false]), none⟩
theorem k14_holds : k14.Holds Try.prog := Fact.holds_of_check tab_ok mixed (ks := []) (n := 100000) (fun _ h => by cases h) (by kernel_rfl)
noncomputable def wfacts : List Fact := [k9, k10, k11, k12, k13, k14]
theorem wfacts_hold : ∀ k ∈ wfacts, k.Holds Try.prog := by
  intro k hk
  simp only [wfacts, List.mem_cons, List.not_mem_nil, or_false] at hk
  rcases hk with rfl | rfl | rfl | rfl | rfl | rfl
  · exact k9_holds
  · exact k10_holds
  · exact k11_holds
  · exact k12_holds
  · exact k13_holds
  · exact k14_holds
theorem works_holds : (⟨10, [], [], .bool true, none⟩ : Fact).Holds Try.prog := Fact.holds_of_check tab_ok mixed (ks := wfacts) wfacts_hold (n := 100000) (by kernel_rfl)
theorem enters10 : Go.Proofs.Enters Try.prog 10 := Go.Proofs.enters_of Try.func10 (by kernel_rfl) rfl
theorem works_cl (h : H) : ClEq Try.prog (.func (.func 10) [] []) [] h (.bool true) h :=
  Cl.of_sp (first := []) (cap := []) enters10 (Fact.big works_holds (g := id) (fun i cs e hi => by simp at hi) (fun i j hi => by simp at hi) rfl)
end Go.Proofs.Ytjhgomacanffkaa
