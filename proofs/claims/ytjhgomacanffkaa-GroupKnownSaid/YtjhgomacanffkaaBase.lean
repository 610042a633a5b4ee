/- The table of the translation's types, and that its drawn orders are followed. -/
import Derived.Test.YtjhgomacanffkaaSxMemo
import Derived.Test.YtjhgomacanffkaaRows
namespace Go.Proofs.Ytjhgomacanffkaa
open Go Sx
noncomputable def tab : Tr Ty := tabF Try.prog 104
theorem tab_ok : TabOK Try.prog tab := tabOK _ _
theorem mixed : Try.prog.follows .mixedOrders = true := by kernel_rfl
end Go.Proofs.Ytjhgomacanffkaa
