/- What function 30 answers at the start heap: its pieces, one behind the other. -/
import Derived.Test.YtjeakifmlmmpaaaGreatDoorMoErrorsA
import Derived.Test.YtjeakifmlmmpaaaGreatDoorMoErrorsB
import Derived.Test.YtjeakifmlmmpaaaGreatDoorMoErrorsC
namespace Go.Proofs.Mo
open Go Sx Go.RowKit
set_option maxRecDepth 100000
theorem et46 : Run Tryz.prog 154 eL 19 (EndQ tab Tryz.f30 (.bool true) g0L) e46 := Run.last R2_ok ec46
theorem et45 : Run Tryz.prog 154 eL 18 (EndQ tab Tryz.f30 (.bool true) g0L) e45 := Run.go (k := 1) R2_ok ec45 rfl et46
theorem et44 : Run Tryz.prog 154 eL 17 (EndQ tab Tryz.f30 (.bool true) g0L) e44 := Run.go (k := 1) R2_ok ec44 rfl et45
theorem et43 : Run Tryz.prog 154 eL 16 (EndQ tab Tryz.f30 (.bool true) g0L) e43 := Run.go (k := 1) R2_ok ec43 rfl et44
theorem et42 : Run Tryz.prog 154 eL 15 (EndQ tab Tryz.f30 (.bool true) g0L) e42 := Run.go (k := 1) R2_ok ec42 rfl et43
theorem et41 : Run Tryz.prog 154 eL 14 (EndQ tab Tryz.f30 (.bool true) g0L) e41 := Run.go (k := 1) R2_ok ec41 rfl et42
theorem et40 : Run Tryz.prog 154 eL 13 (EndQ tab Tryz.f30 (.bool true) g0L) e40 := Run.go (k := 1) R2_ok ec40 rfl et41
theorem et39 : LRun Tryz.prog 154 eL 12 2 (EndQ tab Tryz.f30 (.bool true) g0L) e39 := LRun.out R2_ok ec39 rfl et40
theorem et38 : LRun Tryz.prog 154 eL 12 2 (EndQ tab Tryz.f30 (.bool true) g0L) e38 := LRun.go R2_ok ec38 et39
theorem et37 : LRun Tryz.prog 154 eL 12 2 (EndQ tab Tryz.f30 (.bool true) g0L) e37 := LRun.go R2_ok ec37 et38
theorem et36 : LRun Tryz.prog 154 eL 12 2 (EndQ tab Tryz.f30 (.bool true) g0L) e36 := LRun.go R2_ok ec36 et37
theorem ee36 : Run Tryz.prog 154 eL 12 (EndQ tab Tryz.f30 (.bool true) g0L) e36 := Run.loop (id := 2) (by kernel_rfl) et36
theorem et35 : Run Tryz.prog 154 eL 11 (EndQ tab Tryz.f30 (.bool true) g0L) e35 := Run.go (k := 1) R2_ok ec35 rfl ee36
theorem et34 : LRun Tryz.prog 154 eL 10 0 (EndQ tab Tryz.f30 (.bool true) g0L) e34 := LRun.out R2_ok ec34 rfl et35
theorem et33 : LRun Tryz.prog 154 eL 10 0 (EndQ tab Tryz.f30 (.bool true) g0L) e33 := LRun.go R2_ok ec33 et34
theorem et32 : LRun Tryz.prog 154 eL 10 0 (EndQ tab Tryz.f30 (.bool true) g0L) e32 := LRun.go R2_ok ec32 et33
theorem et31 : LRun Tryz.prog 154 eL 10 0 (EndQ tab Tryz.f30 (.bool true) g0L) e31 := LRun.go R2_ok ec31 et32
theorem et30 : LRun Tryz.prog 154 eL 10 0 (EndQ tab Tryz.f30 (.bool true) g0L) e30 := LRun.go R2_ok ec30 et31
theorem et29 : LRun Tryz.prog 154 eL 10 0 (EndQ tab Tryz.f30 (.bool true) g0L) e29 := LRun.go R2_ok ec29 et30
theorem et28 : LRun Tryz.prog 154 eL 10 0 (EndQ tab Tryz.f30 (.bool true) g0L) e28 := LRun.go R2_ok ec28 et29
theorem et27 : LRun Tryz.prog 154 eL 10 0 (EndQ tab Tryz.f30 (.bool true) g0L) e27 := LRun.go R2_ok ec27 et28
theorem et26 : LRun Tryz.prog 154 eL 10 0 (EndQ tab Tryz.f30 (.bool true) g0L) e26 := LRun.go R2_ok ec26 et27
theorem et25 : LRun Tryz.prog 154 eL 10 0 (EndQ tab Tryz.f30 (.bool true) g0L) e25 := LRun.go R2_ok ec25 et26
theorem et24 : LRun Tryz.prog 154 eL 10 0 (EndQ tab Tryz.f30 (.bool true) g0L) e24 := LRun.go R2_ok ec24 et25
theorem et23 : LRun Tryz.prog 154 eL 10 0 (EndQ tab Tryz.f30 (.bool true) g0L) e23 := LRun.go R2_ok ec23 et24
theorem et22 : LRun Tryz.prog 154 eL 10 0 (EndQ tab Tryz.f30 (.bool true) g0L) e22 := LRun.go R2_ok ec22 et23
theorem et21 : LRun Tryz.prog 154 eL 10 0 (EndQ tab Tryz.f30 (.bool true) g0L) e21 := LRun.go R2_ok ec21 et22
theorem et20 : LRun Tryz.prog 154 eL 10 0 (EndQ tab Tryz.f30 (.bool true) g0L) e20 := LRun.go R2_ok ec20 et21
theorem et19 : LRun Tryz.prog 154 eL 10 0 (EndQ tab Tryz.f30 (.bool true) g0L) e19 := LRun.go R2_ok ec19 et20
theorem et18 : LRun Tryz.prog 154 eL 10 0 (EndQ tab Tryz.f30 (.bool true) g0L) e18 := LRun.go R2_ok ec18 et19
theorem et17 : LRun Tryz.prog 154 eL 10 0 (EndQ tab Tryz.f30 (.bool true) g0L) e17 := LRun.go R2_ok ec17 et18
theorem et16 : LRun Tryz.prog 154 eL 10 0 (EndQ tab Tryz.f30 (.bool true) g0L) e16 := LRun.go R2_ok ec16 et17
theorem et15 : LRun Tryz.prog 154 eL 10 0 (EndQ tab Tryz.f30 (.bool true) g0L) e15 := LRun.go R2_ok ec15 et16
theorem et14 : LRun Tryz.prog 154 eL 10 0 (EndQ tab Tryz.f30 (.bool true) g0L) e14 := LRun.go R2_ok ec14 et15
theorem et13 : LRun Tryz.prog 154 eL 10 0 (EndQ tab Tryz.f30 (.bool true) g0L) e13 := LRun.go R2_ok ec13 et14
theorem et12 : LRun Tryz.prog 154 eL 10 0 (EndQ tab Tryz.f30 (.bool true) g0L) e12 := LRun.go R2_ok ec12 et13
theorem et11 : LRun Tryz.prog 154 eL 10 0 (EndQ tab Tryz.f30 (.bool true) g0L) e11 := LRun.go R2_ok ec11 et12
theorem et10 : LRun Tryz.prog 154 eL 10 0 (EndQ tab Tryz.f30 (.bool true) g0L) e10 := LRun.go R2_ok ec10 et11
theorem et9 : LRun Tryz.prog 154 eL 10 0 (EndQ tab Tryz.f30 (.bool true) g0L) e9 := LRun.go R2_ok ec9 et10
theorem et8 : LRun Tryz.prog 154 eL 10 0 (EndQ tab Tryz.f30 (.bool true) g0L) e8 := LRun.go R2_ok ec8 et9
theorem et7 : LRun Tryz.prog 154 eL 10 0 (EndQ tab Tryz.f30 (.bool true) g0L) e7 := LRun.go R2_ok ec7 et8
theorem ee7 : Run Tryz.prog 154 eL 10 (EndQ tab Tryz.f30 (.bool true) g0L) e7 := Run.loop (id := 0) (by kernel_rfl) et7
theorem et6 : Run Tryz.prog 154 eL 9 (EndQ tab Tryz.f30 (.bool true) g0L) e6 := Run.go (k := 1) R2_ok ec6 rfl ee7
theorem et5 : Run Tryz.prog 154 eL 8 (EndQ tab Tryz.f30 (.bool true) g0L) e5 := Run.go (k := 1) R2_ok ec5 rfl et6
theorem et4 : Run Tryz.prog 154 eL 7 (EndQ tab Tryz.f30 (.bool true) g0L) e4 := Run.go (k := 1) R2_ok ec4 rfl et5
theorem et3 : Run Tryz.prog 154 eL 6 (EndQ tab Tryz.f30 (.bool true) g0L) e3 := Run.go (k := 1) R2_ok ec3 rfl et4
theorem et2 : Run Tryz.prog 154 eL 5 (EndQ tab Tryz.f30 (.bool true) g0L) e2 := Run.go (k := 1) R2_ok ec2 rfl et3
theorem et1 : Run Tryz.prog 154 eL 4 (EndQ tab Tryz.f30 (.bool true) g0L) e1 := Run.go (k := 1) R2_ok ec1 rfl et2
theorem et0 : Run Tryz.prog 154 eL 0 (EndQ tab Tryz.f30 (.bool true) g0L) e0 := Run.go (k := 4) R2_ok ec0 rfl et1
theorem e_sp : SpEq Tryz.prog 30 [] g0S (.bool true) g0S :=
  Sp.run (s := e0) (l := eL) (c := bodyC Tryz.prog 30) tab_ok (fn := Tryz.f30) (by kernel_rfl) (by kernel_rfl) (by kernel_rfl) rfl (by kernel_rfl) (by kernel_rfl) rfl et0
theorem e_enters : Go.Proofs.Enters Tryz.prog 30 := Go.Proofs.enters_of Tryz.func30 (by kernel_rfl) rfl
end Go.Proofs.Mo
