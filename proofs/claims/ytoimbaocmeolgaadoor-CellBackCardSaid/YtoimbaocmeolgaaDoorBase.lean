/- The table of the translation's types; drawn orders are followed; errors.As and errors.Is as answers to calls. -/
import Derived.Test.YtoimbaocmeolgaaDoorSxErrs
import Derived.Test.YtoimbaocmeolgaaDoorAs
import Derived.Test.YtoimbaocmeolgaaDoorIs
namespace Go.Proofs.YtoimbaocmeolgaaDoor
open Go Sx Go.RowKit
noncomputable def tab : Tr Ty := tabF Tryd.prog 155
theorem tab_ok : TabOK Tryd.prog tab := tabOK _ _
theorem mixed : Tryd.prog.follows .mixedOrders = true := by kernel_rfl
theorem enters_As : Go.Proofs.Enters Tryd.prog 32 := Go.Proofs.enters_of Tryd.func32 (by kernel_rfl) rfl
theorem enters_Is : Go.Proofs.Enters Tryd.prog 33 := Go.Proofs.enters_of Tryd.func33 (by kernel_rfl) rfl
theorem as_c : AsC Tryd.prog 32 62 64 0 109 3 37 := fun e t old w hg ht hf => (as_hit e t old w hg ht hf).mono fun ev w' ⟨h1, h2⟩ =>
  ⟨h1, _, ((((Below.refl _ w).alloc (Nat.le_refl _) _).alloc (by simp) _).alloc (by simp; omega) _).alloc (by simp; omega) _, h2⟩
theorem is_c : IsC Tryd.prog 33 62 22 := is_hit
end Go.Proofs.YtoimbaocmeolgaaDoor
