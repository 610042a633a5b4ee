/- What function 8 answers at the start heap: its pieces, one behind the other. -/
import Derived.Test.YtjeakifmlmmpaaaGreatDoorMoWorksA
namespace Go.Proofs.Mo
open Go Sx Go.RowKit
set_option maxRecDepth 100000
theorem wt11 : Run Tryz.prog 102 wL 14 (EndQ tab Tryz.f8 (.bool true) g0L) w11 := Run.last R2_ok wc11
theorem wt10 : Run Tryz.prog 102 wL 13 (EndQ tab Tryz.f8 (.bool true) g0L) w10 := Run.go (k := 1) R2_ok wc10 rfl wt11
theorem wt9 : Run Tryz.prog 102 wL 12 (EndQ tab Tryz.f8 (.bool true) g0L) w9 := Run.go (k := 1) R2_ok wc9 rfl wt10
theorem wt8 : Run Tryz.prog 102 wL 11 (EndQ tab Tryz.f8 (.bool true) g0L) w8 := Run.go (k := 1) R2_ok wc8 rfl wt9
theorem wt7 : Run Tryz.prog 102 wL 10 (EndQ tab Tryz.f8 (.bool true) g0L) w7 := Run.go (k := 1) R2_ok wc7 rfl wt8
theorem wt6 : Run Tryz.prog 102 wL 9 (EndQ tab Tryz.f8 (.bool true) g0L) w6 := Run.go (k := 1) R2_ok wc6 rfl wt7
theorem wt5 : Run Tryz.prog 102 wL 8 (EndQ tab Tryz.f8 (.bool true) g0L) w5 := Run.go (k := 1) R2_ok wc5 rfl wt6
theorem wt4 : Run Tryz.prog 102 wL 7 (EndQ tab Tryz.f8 (.bool true) g0L) w4 := Run.go (k := 1) R2_ok wc4 rfl wt5
theorem wt3 : Run Tryz.prog 102 wL 6 (EndQ tab Tryz.f8 (.bool true) g0L) w3 := Run.go (k := 1) R2_ok wc3 rfl wt4
theorem wt2 : Run Tryz.prog 102 wL 5 (EndQ tab Tryz.f8 (.bool true) g0L) w2 := Run.go (k := 1) R2_ok wc2 rfl wt3
theorem wt1 : Run Tryz.prog 102 wL 4 (EndQ tab Tryz.f8 (.bool true) g0L) w1 := Run.go (k := 1) R2_ok wc1 rfl wt2
theorem wt0 : Run Tryz.prog 102 wL 0 (EndQ tab Tryz.f8 (.bool true) g0L) w0 := Run.go (k := 4) R2_ok wc0 rfl wt1
theorem w_sp : SpEq Tryz.prog 8 [] g0S (.bool true) g0S :=
  Sp.run (s := w0) (l := wL) (c := bodyC Tryz.prog 8) tab_ok (fn := Tryz.f8) (by kernel_rfl) (by kernel_rfl) (by kernel_rfl) rfl (by kernel_rfl) (by kernel_rfl) rfl wt0
theorem w_enters : Go.Proofs.Enters Tryz.prog 8 := Go.Proofs.enters_of Tryz.func8 (by kernel_rfl) rfl
end Go.Proofs.Mo
