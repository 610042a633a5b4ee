/- TableKnown's walk: the ideal machine runs the law in the kernel. -/
import Derived.Test.YtafolioeipfdpaaDoorFactsA
import Derived.Test.YtafolioeipfdpaaDoorFactsB
import Derived.Test.YtafolioeipfdpaaDoorFactsC
import Derived.Test.YtafolioeipfdpaaDoorFactsD
import Derived.Test.YtafolioeipfdpaaDoorFactsE
namespace Go.Proofs.YtafolioeipfdpaaDoor
open Go Sx Go.RowKit
noncomputable def facts : List Fact := [kw, r0, r1, r2, r3, r4, kS, kC]
theorem facts_hold : ∀ k ∈ facts, k.Holds Tryd.prog := by
  intro k hk
  simp only [facts, List.mem_cons, List.not_mem_nil, or_false] at hk
  rcases hk with rfl | rfl | rfl | rfl | rfl | rfl | rfl | rfl
  · exact kw_holds
  · exact r0_holds
  · exact r1_holds
  · exact r2_holds
  · exact r3_holds
  · exact r4_holds
  · exact kS_holds
  · exact kC_holds
noncomputable def answers : Short := orS (asS 21 52 57 0 87 1 29) (orS (isS 26 52 23) (shortOf facts))
theorem answers_ok : SoundS Tryd.prog answers ∧ BodyS Tryd.prog answers := orS_sound (asS_sound as_c enters_As) (orS_sound (isS_sound is_c enters_Is) (shortOf_sound facts_hold))
theorem walk (w : World) (hg : w.cell? ⟨0, 0, none⟩ = some (.iface 87 (.agg #[.pointer (some ⟨1, 29, none⟩)]))) :
    Calls Tryd.prog 3 #[] w fun e w' => e = .returned (.bool true) ∧ Below w.heap.size w w' :=
  law_glob tab_ok mixed answers_ok (n := 100000) (by kernel_rfl) hg
end Go.Proofs.YtafolioeipfdpaaDoor
