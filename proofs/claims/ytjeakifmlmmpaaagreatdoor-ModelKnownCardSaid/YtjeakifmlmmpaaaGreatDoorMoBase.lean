/- The table of the translation's types; drawn orders are followed; the machine that runs the law. -/
import Derived.Test.YtjeakifmlmmpaaaGreatDoorSxLayer
import Derived.Test.YtjeakifmlmmpaaaGreatDoorSxSwift
import Derived.Test.YtjeakifmlmmpaaaGreatDoorSxKnown
import Derived.Test.YtjeakifmlmmpaaaGreatDoorSxErrs
import Derived.Test.YtjeakifmlmmpaaaGreatDoorProg
namespace Go.Proofs.Mo
open Go Sx Go.RowKit
noncomputable def tab : Tr Ty := tabF Tryz.prog 277
theorem tab_ok : TabOK Tryz.prog tab := tabOK _ _
theorem mixed : Tryz.prog.follows .mixedOrders = true := by kernel_rfl
noncomputable def sc0 : Short := fun _ _ _ => none
theorem sc0_ok : SoundS Tryz.prog sc0 ∧ BodyS Tryz.prog sc0 := by
  constructor
  · intro f args h v h' e; cases e
  · intro f args h x e; cases e
noncomputable def R0 : Rn := kmach Tryz.prog tab sc0 100000
theorem R0_ok : SoundR Tryz.prog R0 := (kmach_sound tab_ok mixed sc0_ok.1 sc0_ok.2 _).1
noncomputable def X0 : Xn := nmachS Tryz.prog tab R0 100000
theorem X0_ok : SoundX Tryz.prog X0 := nmachS_sound tab_ok mixed R0_ok _
/-- taken (f128) and Reconfigure (f12): one answer for all orders of their maps. -/
noncomputable def sc1 : Short := onceS Tryz.prog tab X0 [128, 12]
theorem sc1_ok : SoundS Tryz.prog sc1 ∧ BodyS Tryz.prog sc1 := onceS_sound tab_ok X0_ok _
noncomputable def R1 : Rn := kmach Tryz.prog tab sc1 100000
theorem R1_ok : SoundR Tryz.prog R1 := (kmach_sound tab_ok mixed sc1_ok.1 sc1_ok.2 _).1
noncomputable def X1 : Xn := nmachS Tryz.prog tab R1 100000
theorem X1_ok : SoundX Tryz.prog X1 := nmachS_sound tab_ok mixed R1_ok _
/-- does (f47), which recovers. -/
noncomputable def sc2 : Short := orS (doesS Tryz.prog tab R1 X1 47) sc1
theorem sc2_ok : SoundS Tryz.prog sc2 ∧ BodyS Tryz.prog sc2 := orS_sound (doesS_sound tab_ok R1_ok X1_ok _) sc1_ok
noncomputable def R2 : Rn := kmach Tryz.prog tab sc2 100000
theorem R2_ok : SoundR Tryz.prog R2 := (kmach_sound tab_ok mixed sc2_ok.1 sc2_ok.2 _).1
def uu : IV := .tup []
def us (n : Nat) : List IV := List.replicate n uu
def u8 (n : Int) : IV := .int .u8 n
/-- The start: what stands in ident.inEvents (g0) and ident.inPersons (g1). -/
def g0L : BL := [(0, .ro 0 [u8 97, u8 122, u8 48, u8 57, u8 45, u8 45], false), (1, .gname 0 0, false), (2, .ro 0 [u8 33, u8 126], false), (3, .gname 1 2, false)]
def g0S : H := St.H ⟨[], g0L, 4⟩
end Go.Proofs.Mo
