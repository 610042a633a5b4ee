/- CellKnown's walk: the ideal machine runs the law in the kernel. -/
import Derived.Test.YtoimbaocmeolgaaDoorFactsA
import Derived.Test.YtoimbaocmeolgaaDoorFactsB
namespace Go.Proofs.YtoimbaocmeolgaaDoor
open Go Sx Go.RowKit
noncomputable def facts : List Fact := [s0, s1, s2, s3, s4, s5, s6]
theorem facts_hold : ∀ k ∈ facts, k.Holds Tryd.prog := by
  intro k hk
  simp only [facts, List.mem_cons, List.not_mem_nil, or_false] at hk
  rcases hk with rfl | rfl | rfl | rfl | rfl | rfl | rfl
  · exact s0_holds
  · exact s1_holds
  · exact s2_holds
  · exact s3_holds
  · exact s4_holds
  · exact s5_holds
  · exact s6_holds
noncomputable def answers : Short := orS (asS 32 62 64 0 109 3 37) (orS (isS 33 62 22) (shortOf facts))
theorem answers_ok : SoundS Tryd.prog answers ∧ BodyS Tryd.prog answers := orS_sound (asS_sound as_c enters_As) (orS_sound (isS_sound is_c enters_Is) (shortOf_sound facts_hold))
theorem walk (w : World) (hg : w.cell? ⟨0, 0, none⟩ = some (.iface 109 (.agg #[.pointer (some ⟨3, 37, none⟩)]))) :
    Calls Tryd.prog 6 #[] w fun e w' => e = .returned (.bool true) ∧ Below w.heap.size w w' :=
  law_glob tab_ok mixed answers_ok (n := 100000) (by kernel_rfl) hg
end Go.Proofs.YtoimbaocmeolgaaDoor
