/- The machine that knows what the examples (f8) and the errors (f30) answer. -/
import Derived.Test.YtjeakifmlmmpaaaGreatDoorMoWorks
import Derived.Test.YtjeakifmlmmpaaaGreatDoorMoErrors
namespace Go.Proofs.Mo
open Go Sx Go.RowKit
noncomputable def sc3 : Short := orS (knownS [8, 30] (.bool true) g0S) sc2
theorem sc3_ok : SoundS Tryz.prog sc3 ∧ BodyS Tryz.prog sc3 := orS_sound (knownS_sound (by
  intro f hf
  simp only [List.mem_cons, List.not_mem_nil, or_false] at hf
  rcases hf with rfl | rfl
  · exact ⟨w_sp, w_enters⟩
  · exact ⟨e_sp, e_enters⟩)) sc2_ok
noncomputable def R3 : Rn := kmach Tryz.prog tab sc3 100000
theorem R3_ok : SoundR Tryz.prog R3 := (kmach_sound tab_ok mixed sc3_ok.1 sc3_ok.2 _).1
end Go.Proofs.Mo
