/- The law GroupChosen returns true. -/
import Derived.Test.YtjhgomacanffkaaGRefB
namespace Go.Proofs.Ytjhgomacanffkaa
open Go Sx Go.RowKit
-- STOPS tkL, nints, slV, boxH, hB, hB3, hN

/-! ### A hall without rows -/
def hN (tk : Nat → Bool) : H := ((boxH []).new (.cells [.nilslice] 24)).new (.cells (tkL tk) 25)
theorem enters15' : Go.Proofs.Enters Try.prog 15 := Go.Proofs.enters_of Try.func15 (by kernel_rfl) rfl
noncomputable def kS : Fact := ⟨15, [.agg [.nilslice]], [], .nilslice, none⟩
theorem kS_holds : kS.Holds Try.prog := Fact.holds_of_check tab_ok mixed (ks := []) (n := 100000) (fun _ h => by cases h) (by kernel_rfl)
theorem seats0_cl (h : H) : ClEq Try.prog (.func (.func 15) [] []) [.agg [.nilslice]] h .nilslice h :=
  Cl.of_sp (first := []) (cap := []) enters15' (Fact.big kS_holds (g := id) (fun i cs e hi => by simp [kS] at hi) (fun i j hi => by simp [kS] at hi) rfl)
noncomputable def kR : Fact := ⟨32, [.agg [.nilslice]], [], .nilslice, none⟩
theorem kR_holds : kR.Holds Try.prog := Fact.holds_of_check tab_ok mixed (ks := []) (n := 100000) (fun _ h => by cases h) (by kernel_rfl)
theorem seatsR0_cl (h : H) : ClEq Try.prog (.func (.func 32) [] []) [.agg [.nilslice]] h .nilslice h :=
  Cl.of_sp (first := []) (cap := []) enters32 (Fact.big kR_holds (g := id) (fun i cs e hi => by simp [kR] at hi) (fun i j hi => by simp [kR] at hi) rfl)
def ocN (tk : Nat → Bool) (b1 b2 : Bool) : Nat → Nat → Option It := fun f t => match f, t with
  | 7, 15 => some (.c .nilslice (hN tk))
  | 7, 36 => some (.w (.bool b1))
  | 7, 40 => some (.w (.bool b2))
  | 19, 11 => some (.c .nilslice (hN tk))
  | 8, 16 => some (.w (.bool b1))
  | 8, 18 => some (.l (.agg [.nilslice]) (.cells [.nilslice] 24, true))
  | 8, 19 => some (.l (.agg (tkL tk)) (.cells (tkL tk) 25, true))
  | 8, 21 => some (.c (.int .i64 0) (hN tk))
  | 8, 23 => some (.w (.bool b2))
  | _, _ => none

/-! ### The law -/
noncomputable def l3 : List Code := flat (bodyC Try.prog 3)
theorem l3_eq : flat (bodyC Try.prog 3) = l3.take 3 ++ (.block 0 (.loop (loopAt l3 3)) :: l3.drop 4) := by kernel_rfl
def hB (o0 : Option (Bx × Bool)) : H := ⟨.node .leaf .leaf o0, 1⟩
def hB3 (o0 : Option (Bx × Bool)) (rv : IV) (tk : Nat → Bool) (c0 a1 : Int) : H := (((hB o0).new (.cells [rv] 24)).new (.cells (tkL tk) 25)).new (.cells [.int .i64 c0, .int .i64 a1] 26)
def oc3 (rv rw sv sw : IV) (tk : Nat → Bool) (h h2 h3 : H) (ln mn : Nat) (c0 a1 z r t1 c3 : Int) (lt is67 ev ok : Bool) : Nat → Nat → Option It := fun f t => match f, t with
  | 3, 15 => some (.l rv (.cells [rv] 24, true))
  | 3, 17 => some (.l rv (.cells [rv] 24, true))
  | 3, 18 => some (.g (.int .i64 (ln : Nat)) h)
  | 3, 19 => some (.g (.int .i64 (mn : Nat)) h)
  | 3, 20 => some (.o rw)
  | 3, 1003 => some (.t [rv] 24 [rw])
  | 3, 23 => some (.w (.bool lt))
  | 3, 28 => some (.w (.bool is67))
  | 3, 29 => some (.o (.ptr 3 1))
  | 3, 30 => some (.l (.int .i64 a1) (.cells [.int .i64 c0, .int .i64 a1] 26, true))
  | 3, 31 => some (.o (.ptr 3 0))
  | 3, 32 => some (.l (.int .i64 c0) (.cells [.int .i64 c0, .int .i64 a1] 26, true))
  | 3, 34 => some (.w (.int .i64 r))
  | 3, 35 => some (.w (.bool ev))
  | 3, 36 => some (.o (.ptr 3 0))
  | 3, 37 => some (.l (.int .i64 c0) (.cells [.int .i64 c0, .int .i64 a1] 26, true))
  | 3, 38 => some (.w (.int .i64 t1))
  | 3, 39 => some (.w (.int .i64 (t1 + 3)))
  | 3, 40 => some (.w (.int .i64 c3))
  | 3, 42 => some (.l (.agg [rw]) (.cells [rw] 24, true))
  | 3, 43 => some (.l (.agg (tkL tk)) (.cells (tkL tk) 25, true))
  | 3, 46 => some (.c (.tup [sv, .bool ok]) h2)
  | 3, 50 => some (.l (.agg [rw]) (.cells [rw] 24, true))
  | 3, 51 => some (.l (.agg (tkL tk)) (.cells (tkL tk) 25, true))
  | 3, 54 => some (.c (.tup [sw, .bool ok]) h3)
  | 3, 59 => some (.w (.bool false))
  | 3, 63 => some (.c (.bool true) h3)
  | 3, 25 => some (.w (.int .i64 (z + 1)))
  | 3, 66 => some (.c (.bool true) h)
  | _, _ => none
section
variable (o0 : Option (Bx × Bool)) (rv rw sv sw : IV) (tk : Nat → Bool) (h h2 h3 : H) (ln mn off : Nat) (cp cp' : Cap) (c n c0 a1 z r t1 c3 : Int) (lt is67 ev ok : Bool) (g : Nat → IV)
theorem run7_lt : pfR Try.prog tab (ocN tk true true) 50 7 [.agg [.nilslice], .agg (tkL tk), .int .i64 c, .int .i64 n] (boxH []) =
  some (IV.tup [IV.nilslice, IV.bool false], hN tk, [ClEq Try.prog (IV.func (IFn.func 15) [] []) [IV.agg [IV.nilslice]] (hN tk) IV.nilslice (hN tk), IV.bool (decide (n < 1)) = IV.bool true]) := by kernel_rfl
theorem run7_gt : pfR Try.prog tab (ocN tk false true) 50 7 [.agg [.nilslice], .agg (tkL tk), .int .i64 c, .int .i64 n] (boxH []) =
  some (IV.tup [IV.nilslice, IV.bool false], hN tk, [ClEq Try.prog (IV.func (IFn.func 15) [] []) [IV.agg [IV.nilslice]] (hN tk) IV.nilslice (hN tk), IV.bool (decide (n < 1)) = IV.bool false, IV.bool (decide (n > 0)) = IV.bool true]) := by kernel_rfl
theorem run19_0 : pfR Try.prog tab (ocN tk true true) 50 19 [.agg [.nilslice], .agg (tkL tk), .int .i64 c] (boxH []) =
  some (IV.int .i64 0, hN tk, [ClEq Try.prog (IV.func (IFn.func 32) [] []) [IV.agg [IV.nilslice]] (hN tk) IV.nilslice (hN tk)]) := by kernel_rfl
theorem run8_lt : pfR Try.prog tab (ocN tk true true) 50 8 [.agg [.nilslice], .agg (tkL tk), .int .i64 c, .int .i64 n] (boxH []) =
  some (IV.tup [IV.nilslice, IV.bool false], hN tk, [IV.bool (decide (n < 1)) = IV.bool true]) := by kernel_rfl
theorem run8_gt : pfR Try.prog tab (ocN tk false true) 50 8 [.agg [.nilslice], .agg (tkL tk), .int .i64 c, .int .i64 n] (boxH []) =
  some (IV.tup [IV.nilslice, IV.bool false], hN tk, [IV.bool (decide (n < 1)) = IV.bool false, H.get (hN tk) 0 = some (Bx.cells [IV.nilslice] 24, true), ldX (Bx.cells [IV.nilslice] 24, true) true 1 0 = some (IV.agg [IV.nilslice]), H.get (hN tk) 1 = some (Bx.cells (tkL tk) 25, true), ldX (Bx.cells (tkL tk) 25, true) true 64 0 = some (IV.agg (tkL tk)), ClEq Try.prog (IV.func (IFn.func 19) [] []) [IV.agg [IV.nilslice], IV.agg (tkL tk), IV.int .i64 c] (hN tk) (IV.int .i64 0) (hN tk), IV.bool (decide (0 < n)) = IV.bool true]) := by kernel_rfl
theorem pre3_nil : psR Try.prog tab (oc3 .nilslice .nilslice sv sw tk (hB3 o0 .nilslice tk c0 a1) h2 h3 0 0 c0 a1 z r t1 c3 true true true true) 50 3 none 67 (l3.take 3) (canon 67 (fun j => [.agg [.nilslice], .agg (tkL tk), .agg [.int .i64 c0, .int .i64 a1]].getD j undefI) []) (hB o0) [3, 4, 5, 7] =
  some (Out.normal, [IV.ptr 1 0, IV.ptr 2 0, IV.ptr 3 0, IV.int .i64 (-1 : Int)], hB3 o0 IV.nilslice tk c0 a1, [], [
    H.get (hB3 o0 IV.nilslice tk c0 a1) 1 = some (Bx.cells [IV.nilslice] 24, true), ldX (Bx.cells [IV.nilslice] 24, true) false 1 0 = some IV.nilslice, H.get (hB3 o0 IV.nilslice tk c0 a1) 1 = some (Bx.cells [IV.nilslice] 24, true), ldX (Bx.cells [IV.nilslice] 24, true) false 1 0 = some IV.nilslice, builtinI tab Builtin.len [22] [IV.nilslice] (hB3 o0 IV.nilslice tk c0 a1) = some (IV.int .i64 ((0 : Nat) : Int), hB3 o0 IV.nilslice tk c0 a1), builtinI tab Builtin.min [3, 3] [IV.int .i64 ((0 : Nat) : Int), IV.int .i64 10] (hB3 o0 IV.nilslice tk c0 a1) = some (IV.int .i64 ((0 : Nat) : Int), hB3 o0 IV.nilslice tk c0 a1), sliceI tab 22 IV.nilslice none (some (IV.int .i64 ((0 : Nat) : Int))) none (hB3 o0 IV.nilslice tk c0 a1) = some IV.nilslice, H.get (hB3 o0 IV.nilslice tk c0 a1) 1 = some (Bx.cells [IV.nilslice] 24, true), stC 1 [IV.nilslice] 0 (IV.agg [IV.nilslice]) = some [IV.nilslice]]) := by kernel_rfl
theorem pre3_sl : psR Try.prog tab (oc3 (.slice 0 off ln cp) (.slice 0 off mn cp') sv sw tk (hB3 o0 (.slice 0 off ln cp) tk c0 a1) h2 h3 ln mn c0 a1 z r t1 c3 true true true true) 50 3 none 67 (l3.take 3) (canon 67 (fun j => [.agg [.slice 0 off ln cp], .agg (tkL tk), .agg [.int .i64 c0, .int .i64 a1]].getD j undefI) []) (hB o0) [3, 4, 5, 7] =
  some (Out.normal, [IV.ptr 1 0, IV.ptr 2 0, IV.ptr 3 0, IV.int .i64 (-1 : Int)], hB3 o0 (IV.slice 0 off mn cp') tk c0 a1, [], [
    H.get (hB3 o0 (IV.slice 0 off ln cp) tk c0 a1) 1 = some (Bx.cells [IV.slice 0 off ln cp] 24, true), ldX (Bx.cells [IV.slice 0 off ln cp] 24, true) false 1 0 = some (IV.slice 0 off ln cp), H.get (hB3 o0 (IV.slice 0 off ln cp) tk c0 a1) 1 = some (Bx.cells [IV.slice 0 off ln cp] 24, true), ldX (Bx.cells [IV.slice 0 off ln cp] 24, true) false 1 0 = some (IV.slice 0 off ln cp), builtinI tab Builtin.len [22] [IV.slice 0 off ln cp] (hB3 o0 (IV.slice 0 off ln cp) tk c0 a1) = some (IV.int .i64 (↑ln : Int), hB3 o0 (IV.slice 0 off ln cp) tk c0 a1), builtinI tab Builtin.min [3, 3] [IV.int .i64 (↑ln : Int), IV.int .i64 10] (hB3 o0 (IV.slice 0 off ln cp) tk c0 a1) = some (IV.int .i64 (↑mn : Int), hB3 o0 (IV.slice 0 off ln cp) tk c0 a1), sliceI tab 22 (IV.slice 0 off ln cp) none (some (IV.int .i64 (↑mn : Int))) none (hB3 o0 (IV.slice 0 off ln cp) tk c0 a1) = some (IV.slice 0 off mn cp'), H.get (hB3 o0 (IV.slice 0 off ln cp) tk c0 a1) 1 = some (Bx.cells [IV.slice 0 off ln cp] 24, true), stC 1 [IV.slice 0 off ln cp] 0 (IV.agg [IV.slice 0 off mn cp']) = some [IV.slice 0 off mn cp']]) := by kernel_rfl
def lv3 (z : Int) : List IV := [.ptr 1 0, .ptr 2 0, .ptr 3 0, .int .i64 z]
theorem r3_end : pxR Try.prog tab (oc3 rv rw sv sw tk h h2 h3 ln mn c0 a1 z r t1 c3 false true true true) 50 3 none 67 (loopAt l3 3) (canon 67 (ov [3, 4, 5, 7] (lv3 z) g) []) h [] =
  some (Out.exit 0, [], h, [], [IV.bool (decide (z < 68)) = IV.bool false]) := by kernel_rfl
theorem r3_67 : pxR Try.prog tab (oc3 rv rw sv sw tk h h2 h3 ln mn c0 a1 z r t1 c3 true true false ok) 50 3 none 67 (loopAt l3 3) (canon 67 (ov [3, 4, 5, 7] (lv3 z) g) []) h [3, 4, 5, 7] =
  some (Out.normal, [IV.ptr 1 0, IV.ptr 2 0, IV.ptr 3 0, IV.int .i64 (z + 1)], h3, [], [
    IV.bool (decide (z < 68)) = IV.bool true, IV.bool (z == 67) = IV.bool true, indexAddrI tab 26 (IV.ptr 3 0) (IV.int .i64 1) = some (IV.ptr 3 1), H.get h 3 = some (Bx.cells [IV.int .i64 c0, IV.int .i64 a1] 26, true), ldX (Bx.cells [IV.int .i64 c0, IV.int .i64 a1] 26, true) false 1 1 = some (IV.int .i64 a1), indexAddrI tab 26 (IV.ptr 3 0) (IV.int .i64 0) = some (IV.ptr 3 0), H.get h 3 = some (Bx.cells [IV.int .i64 c0, IV.int .i64 a1] 26, true), ldX (Bx.cells [IV.int .i64 c0, IV.int .i64 a1] 26, true) false 1 0 = some (IV.int .i64 c0), IV.int .i64 (Int.tmod z 2) = IV.int .i64 r, IV.bool (r == 0) = IV.bool false, H.get h 1 = some (Bx.cells [rw] 24, true), ldX (Bx.cells [rw] 24, true) true 1 0 = some (IV.agg [rw]), H.get h 2 = some (Bx.cells (tkL tk) 25, true), ldX (Bx.cells (tkL tk) 25, true) true 64 0 = some (IV.agg (tkL tk)), ClEq Try.prog (IV.func (IFn.func 7) [] []) [IV.agg [rw], IV.agg (tkL tk), IV.int .i64 c0, IV.int .i64 a1] h (IV.tup [sv, IV.bool ok]) h2, H.get h2 1 = some (Bx.cells [rw] 24, true), ldX (Bx.cells [rw] 24, true) true 1 0 = some (IV.agg [rw]), H.get h2 2 = some (Bx.cells (tkL tk) 25, true), ldX (Bx.cells (tkL tk) 25, true) true 64 0 = some (IV.agg (tkL tk)), ClEq Try.prog (IV.func (IFn.func 8) [] []) [IV.agg [rw], IV.agg (tkL tk), IV.int .i64 c0, IV.int .i64 a1] h2 (IV.tup [sw, IV.bool ok]) h3, IV.bool (!(ok == ok)) = IV.bool false, ClEq Try.prog (IV.func (IFn.func 9) [] []) [sv, sw] h3 (IV.bool true) h3, IV.int .i64 (IntKind.wrap .i64 (z + 1)) = IV.int .i64 (z + 1)]) := by kernel_rfl
theorem r3_odd : pxR Try.prog tab (oc3 rv rw sv sw tk h h2 h3 ln mn c0 a1 z r t1 c3 true false false ok) 50 3 none 67 (loopAt l3 3) (canon 67 (ov [3, 4, 5, 7] (lv3 z) g) []) h [3, 4, 5, 7] =
  some (Out.normal, [IV.ptr 1 0, IV.ptr 2 0, IV.ptr 3 0, IV.int .i64 (z + 1)], h3, [], [
    IV.bool (decide (z < 68)) = IV.bool true, IV.bool (z == 67) = IV.bool false, indexAddrI tab 26 (IV.ptr 3 0) (IV.int .i64 0) = some (IV.ptr 3 0), H.get h 3 = some (Bx.cells [IV.int .i64 c0, IV.int .i64 a1] 26, true), ldX (Bx.cells [IV.int .i64 c0, IV.int .i64 a1] 26, true) false 1 0 = some (IV.int .i64 c0), IV.int .i64 (Int.tmod z 2) = IV.int .i64 r, IV.bool (r == 0) = IV.bool false, H.get h 1 = some (Bx.cells [rw] 24, true), ldX (Bx.cells [rw] 24, true) true 1 0 = some (IV.agg [rw]), H.get h 2 = some (Bx.cells (tkL tk) 25, true), ldX (Bx.cells (tkL tk) 25, true) true 64 0 = some (IV.agg (tkL tk)), ClEq Try.prog (IV.func (IFn.func 7) [] []) [IV.agg [rw], IV.agg (tkL tk), IV.int .i64 c0, IV.int .i64 z] h (IV.tup [sv, IV.bool ok]) h2, H.get h2 1 = some (Bx.cells [rw] 24, true), ldX (Bx.cells [rw] 24, true) true 1 0 = some (IV.agg [rw]), H.get h2 2 = some (Bx.cells (tkL tk) 25, true), ldX (Bx.cells (tkL tk) 25, true) true 64 0 = some (IV.agg (tkL tk)), ClEq Try.prog (IV.func (IFn.func 8) [] []) [IV.agg [rw], IV.agg (tkL tk), IV.int .i64 c0, IV.int .i64 z] h2 (IV.tup [sw, IV.bool ok]) h3, IV.bool (!(ok == ok)) = IV.bool false, ClEq Try.prog (IV.func (IFn.func 9) [] []) [sv, sw] h3 (IV.bool true) h3, IV.int .i64 (IntKind.wrap .i64 (z + 1)) = IV.int .i64 (z + 1)]) := by kernel_rfl
theorem r3_even : pxR Try.prog tab (oc3 rv rw sv sw tk h h2 h3 ln mn c0 a1 z r t1 c3 true false true ok) 50 3 none 67 (loopAt l3 3) (canon 67 (ov [3, 4, 5, 7] (lv3 z) g) []) h [3, 4, 5, 7] =
  some (Out.normal, [IV.ptr 1 0, IV.ptr 2 0, IV.ptr 3 0, IV.int .i64 (z + 1)], h3, [], [
    IV.bool (decide (z < 68)) = IV.bool true, IV.bool (z == 67) = IV.bool false, indexAddrI tab 26 (IV.ptr 3 0) (IV.int .i64 0) = some (IV.ptr 3 0), H.get h 3 = some (Bx.cells [IV.int .i64 c0, IV.int .i64 a1] 26, true), ldX (Bx.cells [IV.int .i64 c0, IV.int .i64 a1] 26, true) false 1 0 = some (IV.int .i64 c0), IV.int .i64 (Int.tmod z 2) = IV.int .i64 r, IV.bool (r == 0) = IV.bool true, indexAddrI tab 26 (IV.ptr 3 0) (IV.int .i64 0) = some (IV.ptr 3 0), H.get h 3 = some (Bx.cells [IV.int .i64 c0, IV.int .i64 a1] 26, true), ldX (Bx.cells [IV.int .i64 c0, IV.int .i64 a1] 26, true) false 1 0 = some (IV.int .i64 c0), IV.int .i64 (Int.tmod c0 3) = IV.int .i64 t1, IV.int .i64 (IntKind.wrap .i64 (t1 + 3)) = IV.int .i64 (t1 + 3), IV.int .i64 (Int.tmod (t1 + 3) 3) = IV.int .i64 c3, H.get h 1 = some (Bx.cells [rw] 24, true), ldX (Bx.cells [rw] 24, true) true 1 0 = some (IV.agg [rw]), H.get h 2 = some (Bx.cells (tkL tk) 25, true), ldX (Bx.cells (tkL tk) 25, true) true 64 0 = some (IV.agg (tkL tk)), ClEq Try.prog (IV.func (IFn.func 7) [] []) [IV.agg [rw], IV.agg (tkL tk), IV.int .i64 c3, IV.int .i64 z] h (IV.tup [sv, IV.bool ok]) h2, H.get h2 1 = some (Bx.cells [rw] 24, true), ldX (Bx.cells [rw] 24, true) true 1 0 = some (IV.agg [rw]), H.get h2 2 = some (Bx.cells (tkL tk) 25, true), ldX (Bx.cells (tkL tk) 25, true) true 64 0 = some (IV.agg (tkL tk)), ClEq Try.prog (IV.func (IFn.func 8) [] []) [IV.agg [rw], IV.agg (tkL tk), IV.int .i64 c3, IV.int .i64 z] h2 (IV.tup [sw, IV.bool ok]) h3, IV.bool (!(ok == ok)) = IV.bool false, ClEq Try.prog (IV.func (IFn.func 9) [] []) [sv, sw] h3 (IV.bool true) h3, IV.int .i64 (IntKind.wrap .i64 (z + 1)) = IV.int .i64 (z + 1)]) := by kernel_rfl
theorem post3 : psR Try.prog tab (oc3 rv rw sv sw tk h h2 h3 ln mn c0 a1 z r t1 c3 true true true true) 50 3 none 67 (l3.drop 4) (canon 67 (ov [] [] g) []) h [6] =
  some (Out.ret, [IV.bool true], h, [], [ClEq Try.prog (IV.func (IFn.func 10) [] []) [] h (IV.bool true) h]) := by kernel_rfl
end
end Go.Proofs.Ytjhgomacanffkaa
namespace Go.Proofs.Ytjhgomacanffkaa
open Go Sx Go.RowKit

theorem choose0_cl (c n : Int) (tk : Nat → Bool) (h : H) : ClEq Try.prog (.func (.func 7) [] []) [.agg [.nilslice], .agg (tkL tk), .int .i64 c, .int .i64 n] h (.tup [.nilslice, .bool false]) h := by
  refine Cl.of_sp (first := []) (cap := []) enters7 ?_
  have key : SpEq Try.prog 7 [.agg [.nilslice], .agg (tkL tk), .int .i64 c, .int .i64 n] (boxH []) (.tup [.nilslice, .bool false]) (boxH []) := by
    refine Sp.forget rfl ?_
    by_cases h1 : n < 1
    · refine (Sp.px tab_ok mixed (run7_lt tk c n) ⟨seats0_cl _, cT h1, trivial⟩).mono ?_
      rintro v h' ⟨rfl, rfl⟩
      exact ⟨rfl, fun i x hi => by rw [boxH_get] at hi; simp at hi⟩
    · refine (Sp.px tab_ok mixed (run7_gt tk c n) ⟨seats0_cl _, cF h1, cT (by omega), trivial⟩).mono ?_
      rintro v h' ⟨rfl, rfl⟩
      exact ⟨rfl, fun i x hi => by rw [boxH_get] at hi; simp at hi⟩
  have := Sp.bigF (bs := []) rfl (by simp [underLB, IV.underB, under_tk]) rfl key (H0 := h) id (fun i o ho => by simp at ho) (fun i j hi hj _ => by simp at hi)
  simp only [renL, IV.ren, ren_tk] at this
  exact this
theorem free0_cl (c : Int) (tk : Nat → Bool) (h : H) : ClEq Try.prog (.func (.func 19) [] []) [.agg [.nilslice], .agg (tkL tk), .int .i64 c] h (.int .i64 0) h := by
  refine Cl.of_sp (first := []) (cap := []) enters19 ?_
  have key : SpEq Try.prog 19 [.agg [.nilslice], .agg (tkL tk), .int .i64 c] (boxH []) (.int .i64 0) (boxH []) := by
    refine Sp.forget rfl ?_
    refine (Sp.px tab_ok mixed (run19_0 tk c) ⟨seatsR0_cl _, trivial⟩).mono ?_
    rintro v h' ⟨rfl, rfl⟩
    exact ⟨rfl, fun i x hi => by rw [boxH_get] at hi; simp at hi⟩
  have := Sp.bigF (bs := []) rfl (by simp [underLB, IV.underB, under_tk]) rfl key (H0 := h) id (fun i o ho => by simp at ho) (fun i j hi hj _ => by simp at hi)
  simp only [renL, IV.ren, ren_tk] at this
  exact this
theorem chooseR0_cl (c n : Int) (tk : Nat → Bool) (h : H) : ClEq Try.prog (.func (.func 8) [] []) [.agg [.nilslice], .agg (tkL tk), .int .i64 c, .int .i64 n] h (.tup [.nilslice, .bool false]) h := by
  refine Cl.of_sp (first := []) (cap := []) enters8 ?_
  have key : SpEq Try.prog 8 [.agg [.nilslice], .agg (tkL tk), .int .i64 c, .int .i64 n] (boxH []) (.tup [.nilslice, .bool false]) (boxH []) := by
    refine Sp.forget rfl ?_
    by_cases h1 : n < 1
    · refine (Sp.px tab_ok mixed (run8_lt tk c n) ⟨cT h1, trivial⟩).mono ?_
      rintro v h' ⟨rfl, rfl⟩
      exact ⟨rfl, fun i x hi => by rw [boxH_get] at hi; simp at hi⟩
    · refine (Sp.px tab_ok mixed (run8_gt tk c n) ⟨cF h1, by kernel_rfl, rfl, by kernel_rfl, tk_ld tk, free0_cl c tk _, cT (by omega), trivial⟩).mono ?_
      rintro v h' ⟨rfl, rfl⟩
      exact ⟨rfl, fun i x hi => by rw [boxH_get] at hi; simp at hi⟩
  have := Sp.bigF (bs := []) rfl (by simp [underLB, IV.underB, under_tk]) rfl key (H0 := h) id (fun i o ho => by simp at ho) (fun i j hi hj _ => by simp at hi)
  simp only [renL, IV.ren, ren_tk] at this
  exact this

/-- Both of them choose alike, in this hall. -/
def Alike (o0 : Option (Bx × Bool)) (rw : IV) (tk : Nat → Bool) : Prop := ∀ c n : Int, ∃ (P : List Nat) (ok : Bool), P.length < 1000 ∧ ∀ h : H, (∀ x, o0 = some x → h.get 0 = some x) →
  ClEq Try.prog (.func (.func 7) [] []) [.agg [rw], .agg (tkL tk), .int .i64 c, .int .i64 n] h (.tup [slV h.next P.length, .bool ok]) (newL h P.length (nints P) 3) ∧
  ClEq Try.prog (.func (.func 8) [] []) [.agg [rw], .agg (tkL tk), .int .i64 c, .int .i64 n] h (.tup [slV h.next P.length, .bool ok]) (newL h P.length (nints P) 3)
theorem alike_nil (o0 : Option (Bx × Bool)) (tk : Nat → Bool) : Alike o0 .nilslice tk := fun c n => ⟨[], false, by simp, fun h _ => ⟨choose0_cl c n tk h, chooseR0_cl c n tk h⟩⟩
theorem alike_sl {x : Bx} {wr : Bool} {off nn : Nat} {cp : Cap} {rs : List (Int × Int)} (hx : HallX x off nn cp rs) (tk : Nat → Bool) : Alike (some (x, wr)) (.slice 0 off nn cp) tk := fun c n => by
  have h8 : rs.length ≤ 8 := by have := hx.len; omega
  refine ⟨chooseP rs c tk n, okP rs c tk n, ?_, fun h hg => ⟨choose_cl hx c n tk (hg _ rfl), chooseR_cl hx c n tk (hg _ rfl)⟩⟩
  have := choose_len (rs := rs) (c := c) (tk := tk) n
  have := free_le h8 c tk
  omega

structure J3 (o0 : Option (Bx × Bool)) (rw : IV) (tk : Nat → Bool) (c0 a1 : Int) (h : H) : Prop where
  dom : ∀ i y, h.get i = some y → i < h.next
  g0 : ∀ x, o0 = some x → h.get 0 = some x
  g1 : h.get 1 = some (.cells [rw] 24, true)
  g2 : h.get 2 = some (.cells (tkL tk) 25, true)
  g3 : h.get 3 = some (.cells [.int .i64 c0, .int .i64 a1] 26, true)
theorem J3.grow {o0 : Option (Bx × Bool)} {rw : IV} {tk : Nat → Bool} {c0 a1 : Int} {h h' : H} (j : J3 o0 rw tk c0 a1 h) (hg : Grows h h') (hd : ∀ i y, h'.get i = some y → i < h'.next) : J3 o0 rw tk c0 a1 h' :=
  ⟨hd, fun x e => hg.2 _ _ (j.g0 x e), hg.2 _ _ j.g1, hg.2 _ _ j.g2, hg.2 _ _ j.g3⟩
theorem hB_dom (o0 : Option (Bx × Bool)) : ∀ i y, (hB o0).get i = some y → i < (hB o0).next := by
  intro i y h
  show i < 1
  by_cases e : i = 0
  · omega
  · exfalso
    have : (hB o0).get i = none := by
      show (Tr.node .leaf .leaf o0).get i = none
      simp only [Tr.get]
      cases hb : Nat.beq i 0 with
      | true => exact absurd (Nat.eq_of_beq_eq_true hb) e
      | false =>
        simp only [cond_false]
        cases Nat.beq (i % 2) 1 <;> rfl
    rw [this] at h; cases h

theorem law3_core {o0 : Option (Bx × Bool)} {rw : IV} {tk : Nat → Bool} (hal : Alike o0 rw tk) (c0 a1 : Int) {fr : Fr} {g : Nat → IV} (hf : FrIs 67 fr (ov [3, 4, 5, 7] (lv3 (-1)) g) []) :
    EvS Try.prog none 67 (.block 0 (.loop (loopAt l3 3)) :: l3.drop 4) (BodyQ tab [.tmp 6] fun v _ => v = .bool true) fr (hB3 o0 rw tk c0 a1) := by
  have j0 : J3 o0 rw tk c0 a1 (hB3 o0 rw tk c0 a1) := ⟨dom_new (dom_new (dom_new (hB_dom o0))), fun x e => by rw [← e]; kernel_rfl, by kernel_rfl, by kernel_rfl, by kernel_rfl⟩
  have hi0 : indexAddrI tab 26 (.ptr 3 0) (.int .i64 0) = some (.ptr 3 0) := by
    have := ix_arr (b := 3) (o := 0) (k := .i64) (i := 0) t26d t3s (by decide)
    simpa using this
  have hi1 : indexAddrI tab 26 (.ptr 3 0) (.int .i64 1) = some (.ptr 3 1) := by
    have := ix_arr (b := 3) (o := 0) (k := .i64) (i := 1) t26d t3s (by decide)
    simpa using this
  refine EvS.loop (fun t fr h => ∃ (j : Nat), j ≤ 69 ∧ t = 69 - j ∧ J3 o0 rw tk c0 a1 h ∧ ∃ g, FrIs 67 fr (ov [3, 4, 5, 7] (lv3 ((j : Int) - 1)) g) []) 69
    ⟨0, by omega, by omega, j0, g, by rw [show ((0 : Nat) : Int) - 1 = -1 from rfl]; exact hf⟩ ?_
  clear hf j0
  rintro t fr h ⟨k, hk, rfl, j, g, hf⟩
  by_cases hlt : k < 69
  case neg =>
    obtain rfl : k = 69 := by omega
    refine Ev.px tab_ok mixed hf (r3_end .nilslice rw .nilslice .nilslice tk h h h 0 0 c0 a1 _ 0 0 0 g) ⟨cF (by omega), trivial⟩ fun fr2 g2 hf2 => ?_
    refine RoundEnds.out ?_
    refine EvS.pxEnd tab_ok mixed hf2 (List.cons_ne_nil _ _) (post3 .nilslice rw .nilslice .nilslice tk h h h 0 0 c0 a1 0 0 0 0 g2) ⟨works_cl _, trivial⟩ fun fr3 g3 hf3 => ?_
    have e6 : fr3.tm.tmp 6 = .bool true := hf3.2 6 (by decide)
    exact ⟨.inr rfl, h, [.bool true], by rw [hf3.1]; rfl, by simp only [resI, e6, Option.map_some], rfl⟩
  have zb : -1 ≤ (k : Int) - 1 ∧ (k : Int) - 1 < 68 := by omega
  have nxt : ∀ {fr2 : Fr} {g2 : Nat → IV} {h' : H}, J3 o0 rw tk c0 a1 h' → FrIs 67 fr2 (ov [3, 4, 5, 7] (lv3 ((k : Int) - 1 + 1)) g2) [] → ∃ m', m' < 69 - k ∧ ∃ (j : Nat), j ≤ 69 ∧ m' = 69 - j ∧ J3 o0 rw tk c0 a1 h' ∧ ∃ g, FrIs 67 fr2 (ov [3, 4, 5, 7] (lv3 ((j : Int) - 1)) g) [] := fun {fr2 g2 h'} j hf2 =>
    ⟨69 - (k + 1), by omega, k + 1, by omega, rfl, j, g2, by rw [show ((k + 1 : Nat) : Int) - 1 = (k : Int) - 1 + 1 by omega]; exact hf2⟩
  have both : ∀ c n : Int, ∃ (h2 h3 : H) (sv sw : IV) (ok : Bool), ClEq Try.prog (.func (.func 7) [] []) [.agg [rw], .agg (tkL tk), .int .i64 c, .int .i64 n] h (.tup [sv, .bool ok]) h2 ∧
      ClEq Try.prog (.func (.func 8) [] []) [.agg [rw], .agg (tkL tk), .int .i64 c, .int .i64 n] h2 (.tup [sw, .bool ok]) h3 ∧ ClEq Try.prog (.func (.func 9) [] []) [sv, sw] h3 (.bool true) h3 ∧ J3 o0 rw tk c0 a1 h2 ∧ J3 o0 rw tk c0 a1 h3 := fun c n => by
    obtain ⟨P, ok, hP, hcl⟩ := hal c n
    obtain ⟨hg2, hd2⟩ := newL_grows j.dom P.length (nints P) 3
    have j2 := j.grow hg2 hd2
    have p2 : 0 < P.length → (newL h P.length (nints P) 3).get h.next = some (.cells (nints P) 3, true) := fun hp => newL_get hp _ _
    have q1 := (hcl h j.g0).1
    generalize newL h P.length (nints P) 3 = h2 at *
    obtain ⟨hg3, hd3⟩ := newL_grows j2.dom P.length (nints P) 3
    have j3 := j2.grow hg3 hd3
    have p3 : 0 < P.length → (newL h2 P.length (nints P) 3).get h2.next = some (.cells (nints P) 3, true) := fun hp => newL_get hp _ _
    have q2 := (hcl h2 j2.g0).2
    generalize newL h2 P.length (nints P) 3 = h3 at *
    exact ⟨h2, h3, _, _, ok, q1, q2, ints_cl (by omega) (fun hp => hg3.2 _ _ (p2 hp)) p3, j2, j3⟩
  generalize hz : (k : Int) - 1 = z at *
  by_cases h67 : z = 67
  · obtain ⟨h2, h3, sv, sw, ok, q1, q2, q3, j2, j3⟩ := both c0 a1
    refine Ev.px tab_ok mixed hf (r3_67 .nilslice rw sv sw tk h h2 h3 0 0 c0 a1 z _ 0 0 ok g) ⟨cT (by omega), eT h67, hi1, j.g3, rfl, hi0, j.g3, rfl, rfl, eF (by rw [h67]; decide), j.g1, rfl, j.g2, tk_ld tk, q1, j2.g1, rfl, j2.g2, tk_ld tk, q2, by simp, q3, cW rfl (by omega) (by omega), trivial⟩ fun fr2 g2 hf2 => ?_
    exact nxt j3 hf2
  by_cases hev : Int.tmod z 2 = 0
  · have b1 := Int.tmod_lt_of_pos c0 (show (0 : Int) < 3 by decide)
    have b2 := Int.lt_tmod_of_pos c0 (show (0 : Int) < 3 by decide)
    obtain ⟨h2, h3, sv, sw, ok, q1, q2, q3, j2, j3⟩ := both (Int.tmod (Int.tmod c0 3 + 3) 3) z
    refine Ev.px tab_ok mixed hf (r3_even .nilslice rw sv sw tk h h2 h3 0 0 c0 a1 z _ _ _ ok g) ⟨cT (by omega), eF h67, hi0, j.g3, rfl, rfl, eT hev, hi0, j.g3, rfl, rfl, cW rfl (by omega) (by omega), rfl, j.g1, rfl, j.g2, tk_ld tk, q1, j2.g1, rfl, j2.g2, tk_ld tk, q2, by simp, q3, cW rfl (by omega) (by omega), trivial⟩ fun fr2 g2 hf2 => ?_
    exact nxt j3 hf2
  · obtain ⟨h2, h3, sv, sw, ok, q1, q2, q3, j2, j3⟩ := both c0 z
    refine Ev.px tab_ok mixed hf (r3_odd .nilslice rw sv sw tk h h2 h3 0 0 c0 a1 z _ 0 0 ok g) ⟨cT (by omega), eF h67, hi0, j.g3, rfl, rfl, eF hev, j.g1, rfl, j.g2, tk_ld tk, q1, j2.g1, rfl, j2.g2, tk_ld tk, q2, by simp, q3, cW rfl (by omega) (by omega), trivial⟩ fun fr2 g2 hf2 => ?_
    exact nxt j3 hf2

theorem min_ok (a b : Nat) (h : H) : builtinI tab .min [3, 3] [.int .i64 (a : Nat), .int .i64 (b : Nat)] h = some (.int .i64 ((min a b : Nat) : Int), h) := by
  show (minI (.int .i64 (a : Nat)) [.int .i64 (b : Nat)]).map (fun v => (v, h)) = _
  simp only [minI, Option.map_some]
  congr 3
  split <;> omega
theorem len_sliceC {t e : TypeId} (ht : (tab.get t).map Ty.d = some (.slice e)) (b o n : Nat) (c : Cap) (h : H) : builtinI tab .len [t] [.slice b o n c] h = some (.int .i64 n, h) := by
  show (lenI tab t (.slice b o n c) h).map _ = _
  unfold lenI
  cases h1 : tab.get t with
  | none => rw [h1] at ht; cases ht
  | some ty =>
    rw [h1] at ht
    simp only [Option.map_some, Option.some.injEq] at ht
    simp only [ht]; rfl
theorem law3_nil (o0 : Option (Bx × Bool)) (tk : Nat → Bool) (c0 a1 : Int) : Sp Try.prog 3 [.agg [.nilslice], .agg (tkL tk), .agg [.int .i64 c0, .int .i64 a1]] (hB o0) fun v _ => v = .bool true := by
  refine Sp.of_ev tab_ok Try.func3 (c := bodyC Try.prog 3) (by kernel_rfl) (Nat.le_of_ble_eq_true rfl) ?_
  show Ev Try.prog none 67 (bodyC Try.prog 3) (BodyQ tab [.tmp 6] _) _ _
  refine Ev.of_flat l3_eq ?_
  refine EvS.px tab_ok mixed (FrIs.start 67 _) (by simp) (pre3_nil o0 .nilslice .nilslice tk (hB o0) (hB o0) c0 a1 0 0 0 0) ⟨by kernel_rfl, rfl, by kernel_rfl, rfl, by kernel_rfl, min_ok 0 10 _, by kernel_rfl, by kernel_rfl, rfl, trivial⟩ fun fr g hf => ?_
  exact law3_core (alike_nil o0 tk) c0 a1 hf
theorem law3_sl {x : Bx} {wr : Bool} {off ln cap : Nat} {rs : List (Int × Int)} (hx : HallX x off (min ln 10) (.hard cap) rs) (hc : ln ≤ cap) (tk : Nat → Bool) (c0 a1 : Int) :
    Sp Try.prog 3 [.agg [.slice 0 off ln (.hard cap)], .agg (tkL tk), .agg [.int .i64 c0, .int .i64 a1]] (hB (some (x, wr))) fun v _ => v = .bool true := by
  refine Sp.of_ev tab_ok Try.func3 (c := bodyC Try.prog 3) (by kernel_rfl) (Nat.le_of_ble_eq_true rfl) ?_
  show Ev Try.prog none 67 (bodyC Try.prog 3) (BodyQ tab [.tmp 6] _) _ _
  refine Ev.of_flat l3_eq ?_
  refine EvS.px tab_ok mixed (FrIs.start 67 _) (by simp) (pre3_sl (some (x, wr)) .nilslice .nilslice tk (hB none) (hB none) ln (min ln 10) off (.hard cap) (.hard cap) c0 a1 0 0 0 0) ⟨by kernel_rfl, rfl, by kernel_rfl, rfl, len_sliceC t22d _ _ _ _ _, min_ok ln 10 _, ?_, by kernel_rfl, rfl, trivial⟩ fun fr g hf => ?_
  · have h1 := t22d
    have h2 := t39s
    unfold sliceI
    cases ht : tab.get 22 with
    | none => rw [ht] at h1; cases h1
    | some ty =>
      cases he : tab.get 39 with
      | none => rw [he] at h2; cases h2
      | some et =>
        rw [ht] at h1; rw [he] at h2
        simp only [Option.map_some, Option.some.injEq] at h1 h2
        simp only [h1, he, boundI]
        rw [if_pos (by omega)]
        simp only [Int.toNat_natCast]
        rw [Nat.ble_eq_true_of_le (Nat.zero_le _), Nat.ble_eq_true_of_le (by omega : min ln 10 ≤ cap), Nat.ble_eq_true_of_le (Nat.le_refl cap)]
        simp
  · exact law3_core (alike_sl hx tk) c0 a1 hf
end Go.Proofs.Ytjhgomacanffkaa
