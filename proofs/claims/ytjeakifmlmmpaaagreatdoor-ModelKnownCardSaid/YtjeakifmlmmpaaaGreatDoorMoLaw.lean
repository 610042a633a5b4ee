/- What function 6 answers at the start heap: its pieces, one behind the other. -/
import Derived.Test.YtjeakifmlmmpaaaGreatDoorMoLawA
namespace Go.Proofs.Mo
open Go Sx Go.RowKit
set_option maxRecDepth 100000
theorem lt19 : Run Tryz.prog 187 lL 22 (EndQ tab Tryz.f6 (.bool true) g0L) l19 := Run.last R3_ok lc19
theorem lt18 : Run Tryz.prog 187 lL 21 (EndQ tab Tryz.f6 (.bool true) g0L) l18 := Run.go (k := 1) R3_ok lc18 rfl lt19
theorem lt17 : Run Tryz.prog 187 lL 20 (EndQ tab Tryz.f6 (.bool true) g0L) l17 := Run.go (k := 1) R3_ok lc17 rfl lt18
theorem lt16 : Run Tryz.prog 187 lL 19 (EndQ tab Tryz.f6 (.bool true) g0L) l16 := Run.go (k := 1) R3_ok lc16 rfl lt17
theorem lt15 : Run Tryz.prog 187 lL 18 (EndQ tab Tryz.f6 (.bool true) g0L) l15 := Run.go (k := 1) R3_ok lc15 rfl lt16
theorem lt14 : Run Tryz.prog 187 lL 17 (EndQ tab Tryz.f6 (.bool true) g0L) l14 := Run.go (k := 1) R3_ok lc14 rfl lt15
theorem lt13 : Run Tryz.prog 187 lL 16 (EndQ tab Tryz.f6 (.bool true) g0L) l13 := Run.go (k := 1) R3_ok lc13 rfl lt14
theorem lt12 : Run Tryz.prog 187 lL 15 (EndQ tab Tryz.f6 (.bool true) g0L) l12 := Run.go (k := 1) R3_ok lc12 rfl lt13
theorem lt11 : Run Tryz.prog 187 lL 14 (EndQ tab Tryz.f6 (.bool true) g0L) l11 := Run.go (k := 1) R3_ok lc11 rfl lt12
theorem lt10 : Run Tryz.prog 187 lL 13 (EndQ tab Tryz.f6 (.bool true) g0L) l10 := Run.go (k := 1) R3_ok lc10 rfl lt11
theorem lt9 : Run Tryz.prog 187 lL 12 (EndQ tab Tryz.f6 (.bool true) g0L) l9 := Run.go (k := 1) R3_ok lc9 rfl lt10
theorem lt8 : Run Tryz.prog 187 lL 11 (EndQ tab Tryz.f6 (.bool true) g0L) l8 := Run.go (k := 1) R3_ok lc8 rfl lt9
theorem lt7 : Run Tryz.prog 187 lL 10 (EndQ tab Tryz.f6 (.bool true) g0L) l7 := Run.go (k := 1) R3_ok lc7 rfl lt8
theorem lt6 : Run Tryz.prog 187 lL 9 (EndQ tab Tryz.f6 (.bool true) g0L) l6 := Run.go (k := 1) R3_ok lc6 rfl lt7
theorem lt5 : Run Tryz.prog 187 lL 8 (EndQ tab Tryz.f6 (.bool true) g0L) l5 := Run.go (k := 1) R3_ok lc5 rfl lt6
theorem lt4 : Run Tryz.prog 187 lL 6 (EndQ tab Tryz.f6 (.bool true) g0L) l4 := Run.go (k := 2) R3_ok lc4 rfl lt5
theorem lt3 : Run Tryz.prog 187 lL 5 (EndQ tab Tryz.f6 (.bool true) g0L) l3 := Run.go (k := 1) R3_ok lc3 rfl lt4
theorem lt2 : Run Tryz.prog 187 lL 4 (EndQ tab Tryz.f6 (.bool true) g0L) l2 := Run.go (k := 1) R3_ok lc2 rfl lt3
theorem lt1 : Run Tryz.prog 187 lL 3 (EndQ tab Tryz.f6 (.bool true) g0L) l1 := Run.go (k := 1) R3_ok lc1 rfl lt2
theorem lt0 : Run Tryz.prog 187 lL 0 (EndQ tab Tryz.f6 (.bool true) g0L) l0 := Run.go (k := 3) R3_ok lc0 rfl lt1
theorem l_sp : SpEq Tryz.prog 6 [] g0S (.bool true) g0S :=
  Sp.run (s := l0) (l := lL) (c := bodyC Tryz.prog 6) tab_ok (fn := Tryz.f6) (by kernel_rfl) (by kernel_rfl) (by kernel_rfl) rfl (by kernel_rfl) (by kernel_rfl) rfl lt0
theorem l_enters : Go.Proofs.Enters Tryz.prog 6 := Go.Proofs.enters_of Tryz.func6 (by kernel_rfl) rfl
end Go.Proofs.Mo
