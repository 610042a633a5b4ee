/- The law GroupFits returns true. -/
import Derived.Test.YtjhgomacanffkaaGGrows
import Derived.Test.YtjhgomacanffkaaGNeed
namespace Go.Proofs.Ytjhgomacanffkaa
open Go Sx Go.RowKit
-- STOPS tkL, nints, rowC, hL, slV, IntKind.u8

noncomputable def l4 : List Code := flat (bodyC Try.prog 4)
theorem l4_eq : flat (bodyC Try.prog 4) = l4.take 8 ++ (.block 0 (.loop (loopAt l4 8)) :: l4.drop 9) := by kernel_rfl
theorem l4_eq2 : l4.drop 9 = (l4.drop 9).take 1 ++ (.block 2 (.loop (loopAt l4 10)) :: l4.drop 11) := by kernel_rfl
noncomputable def r4 : List Code := flat (loopAt l4 10)
theorem r4_eq : flat (loopAt l4 10) = r4.take 2 ++ (.block 3 (blkAt r4 2) :: r4.drop 3) := by kernel_rfl
noncomputable def m4 : List Code := flat (blkAt r4 2)
theorem m4_eq : flat (blkAt r4 2) = m4.take 8 ++ (.block 4 (.loop (loopAt m4 8)) :: []) := by kernel_rfl

def hF1 (o0 : Option (Bx × Bool)) (tk : Nat → Bool) : H := (hL o0 none).new (.cells (tkL tk) 25)
def hF2 (o0 : Option (Bx × Bool)) (tk : Nat → Bool) (rs : List (Int × Int)) : H := (hF1 o0 tk).new (.cells (rowC rs) 39)
def hF3 (o0 : Option (Bx × Bool)) (tk : Nat → Bool) (rs : List (Int × Int)) (hv : IV) : H := (hF2 o0 tk rs).new (.cells [hv] 24)

def oc4 (h0 h1 h2 h3 h : H) (hv lv sv : IV) (tk : Nat → Bool) (rs : List (Int × Int)) (z n k val w q i ln s u m sp : Nat) (r1 r2 sh a : Int) (L : List Nat) (lt ok ge pos : Bool) : Nat → Nat → Option It := fun f t => match f, t with
  | 4, 17 => some (.c (.bool true) h0)
  | 4, 20 => some (.c (.agg [hv]) h1)
  | 4, 1007 => some (.s [hv])
  | 4, 22 => some (.w (.int .i64 (z : Nat)))
  | 4, 23 => some (.w (.int .i64 ((z % 3 : Nat) : Int)))
  | 4, 24 => some (.l (.agg [hv]) (.cells [hv] 24, true))
  | 4, 25 => some (.l (.agg (tkL tk)) (.cells (tkL tk) 25, true))
  | 4, 27 => some (.c lv h2)
  | 4, 30 => some (.g (.int .i64 (n : Nat)) h)
  | 4, 31 => some (.w (.bool lt))
  | 4, 37 => some (.o (.ptr q k))
  | 4, 38 => some (.l (.int .i64 (val : Nat)) (.cells (nints L) 3, true))
  | 4, 39 => some (.w (.int .i64 ((w + val : Nat) : Int)))
  | 4, 33 => some (.w (.int .i64 ((k + 1 : Nat) : Int)))
  | 4, 41 => some (.w (.bool lt))
  | 4, 43 => some (.w (.int .i64 ((n + 1 : Nat) : Int)))
  | 4, 45 => some (.l (.agg [hv]) (.cells [hv] 24, true))
  | 4, 46 => some (.l (.agg (tkL tk)) (.cells (tkL tk) 25, true))
  | 4, 49 => some (.c (.tup [sv, .bool ok]) h3)
  | 4, 55 => some (.w (.bool ge))
  | 4, 56 => some (.w (.bool false))
  | 4, 62 => some (.g (.int .i64 (ln : Nat)) h3)
  | 4, 63 => some (.w (.bool false))
  | 4, 69 => some (.g (.int .i64 (ln : Nat)) h3)
  | 4, 71 => some (.w (.bool false))
  | 4, 74 => some (.c (.int .i64 (sp : Nat)) h3)
  | 4, 77 => some (.c (.int .i64 (sp : Nat)) h3)
  | 4, 78 => some (.w (.bool false))
  | 4, 82 => some (.w (.bool lt))
  | 4, 87 => some (.o (.ptr q i))
  | 4, 88 => some (.l (.int .i64 (s : Nat)) (.cells (nints L) 3, true))
  | 4, 90 => some (.w (.bool false))
  | 4, 94 => some (.l hv (.cells [hv] 24, true))
  | 4, 95 => some (.g (.int .i64 (m : Nat)) h)
  | 4, 96 => some (.w (.int .i64 ((8 * m : Nat) : Int)))
  | 4, 97 => some (.w (.bool false))
  | 4, 101 => some (.o (.ptr 2 s))
  | 4, 102 => some (.l (.bool false) (.cells (tkL tk) 25, true))
  | 4, 106 => some (.l hv (.cells [hv] 24, true))
  | 4, 108 => some (.w (.int .i64 ((s / 8 : Nat) : Int)))
  | 4, 109 => some (.o (.ptr 3 (s / 8 * 2)))
  | 4, 111 => some (.l (.int .i64 r1) (.cells (rowC rs) 39, true))
  | 4, 113 => some (.w (.bool false))
  | 4, 117 => some (.l hv (.cells [hv] 24, true))
  | 4, 119 => some (.w (.int .i64 ((s / 8 : Nat) : Int)))
  | 4, 120 => some (.o (.ptr 3 (s / 8 * 2)))
  | 4, 122 => some (.l (.int .u8 r2) (.cells (rowC rs) 39, true))
  | 4, 124 => some (.w (.int .i64 ((s % 8 : Nat) : Int)))
  | 4, 125 => some (.o (.int .u8 sh))
  | 4, 126 => some (.w (.int .u8 a))
  | 4, 127 => some (.w (.bool false))
  | 4, 131 => some (.w (.bool pos))
  | 4, 135 => some (.w (.int .i64 ((i - 1 : Nat) : Int)))
  | 4, 136 => some (.o (.ptr q (i - 1)))
  | 4, 137 => some (.l (.int .i64 (u : Nat)) (.cells (nints L) 3, true))
  | 4, 139 => some (.w (.bool false))
  | 4, 84 => some (.w (.int .i64 ((i + 1 : Nat) : Int)))
  | _, _ => none

section
variable (o0 : Option (Bx × Bool)) (h0 h1 h2 h3 h : H) (av hv lv sv : IV) (tk : Nat → Bool) (rs : List (Int × Int)) (z n k val w q i ln s u m sp c : Nat) (r1 r2 sh a : Int) (L : List Nat) (lt ok ge pos : Bool) (g : Nat → IV)
theorem pre4 : psR Try.prog tab (oc4 (hF1 o0 tk) (hF2 o0 tk rs) h2 h3 h hv lv sv tk rs z n k val w q i ln s u m sp r1 r2 sh a L true true true true) 50 4 none 142 (l4.take 8) (canon 142 (fun j => [av, .agg (tkL tk), .int .u8 (z : Nat)].getD j undefI) []) (hL o0 none) [4, 7, 8, 9, 10, 11] =
  some (Out.normal, [IV.ptr 2 0, IV.ptr (4) 0, IV.int .i64 (↑(z % 3) : Int), lv, IV.int .i64 0, IV.int .i64 0], h2, [], [
    ClEq Try.prog (IV.func (IFn.func 10) [] []) [] (hF1 o0 tk) (IV.bool true) (hF1 o0 tk), ClEq Try.prog (IV.func (IFn.func 11) [] []) [av] (hF1 o0 tk) (IV.agg [hv]) (hF2 o0 tk rs), stC 1 [IV.nilslice] 0 (IV.agg [hv]) = some [hv], IV.int .i64 (IntKind.wrap .i64 (↑z : Int)) = IV.int .i64 (↑z : Int), IV.int .i64 (Int.tmod (↑z : Int) 3) = IV.int .i64 (↑(z % 3) : Int), H.get (hF3 o0 tk rs hv) (4) = some (Bx.cells [hv] 24, true), ldX (Bx.cells [hv] 24, true) true 1 0 = some (IV.agg [hv]), H.get (hF3 o0 tk rs hv) 2 = some (Bx.cells (tkL tk) 25, true), ldX (Bx.cells (tkL tk) 25, true) true 64 0 = some (IV.agg (tkL tk)), ClEq Try.prog (IV.func (IFn.func 12) [] []) [IV.agg [hv], IV.agg (tkL tk), IV.int .i64 (↑(z % 3) : Int)] (hF3 o0 tk rs hv) lv h2]) := by kernel_rfl
def lv4 (lv : IV) (c w k : Nat) : List IV := [.ptr 2 0, .ptr 4 0, .int .i64 (c : Nat), lv, .int .i64 (w : Nat), .int .i64 (k : Nat)]
theorem s4_end : pxR Try.prog tab (oc4 h0 h1 h2 h3 h hv lv sv tk rs z n k val w q i ln s u m sp r1 r2 sh a L false true true true) 50 4 none 142 (loopAt l4 8) (canon 142 (ov [4, 7, 8, 9, 10, 11] (lv4 lv c w k) g) []) h [4, 7, 8, 9, 10] =
  some (Out.exit 0, [IV.ptr 2 0, IV.ptr 4 0, IV.int .i64 (↑c : Int), lv, IV.int .i64 (↑w : Int)], h, [], [builtinI tab Builtin.len [27] [lv] h = some (IV.int .i64 (↑n : Int), h), IV.bool (decide ((↑k : Int) < (↑n : Int))) = IV.bool false]) := by kernel_rfl
theorem s4_go : pxR Try.prog tab (oc4 h0 h1 h2 h3 h hv lv sv tk rs z n k val w q i ln s u m sp r1 r2 sh a L true true true true) 50 4 none 142 (loopAt l4 8) (canon 142 (ov [4, 7, 8, 9, 10, 11] (lv4 lv c w k) g) []) h [4, 7, 8, 9, 10, 11] =
  some (Out.normal, [IV.ptr 2 0, IV.ptr 4 0, IV.int .i64 (↑c : Int), lv, IV.int .i64 (↑(w + val) : Int), IV.int .i64 (↑(k + 1) : Int)], h, [], [
    builtinI tab Builtin.len [27] [lv] h = some (IV.int .i64 (↑n : Int), h), IV.bool (decide ((↑k : Int) < (↑n : Int))) = IV.bool true, indexAddrI tab 27 lv (IV.int .i64 (↑k : Int)) = some (IV.ptr q k), H.get h q = some (Bx.cells (nints L) 3, true), ldX (Bx.cells (nints L) 3, true) false 1 k = some (IV.int .i64 (↑val : Int)), IV.int .i64 (IntKind.wrap .i64 ((↑w : Int) + (↑val : Int))) = IV.int .i64 (↑(w + val) : Int), IV.int .i64 (IntKind.wrap .i64 ((↑k : Int) + 1)) = IV.int .i64 (↑(k + 1) : Int)]) := by kernel_rfl
theorem mid4 : psR Try.prog tab (oc4 h0 h1 h2 h3 h hv lv sv tk rs z n k val w q i ln s u m sp r1 r2 sh a L true true true true) 50 4 none 142 ((l4.drop 9).take 1) (canon 142 (ov [4, 7, 8, 9, 10] ((lv4 lv c w k).take 5) g) []) h [4, 7, 8, 9, 10, 12] =
  some (Out.normal, [IV.ptr 2 0, IV.ptr 4 0, IV.int .i64 (↑c : Int), lv, IV.int .i64 (↑w : Int), IV.int .i64 1], h, [], []) := by kernel_rfl
theorem r4_end : psR Try.prog tab (oc4 h0 h1 h2 h3 h hv lv sv tk rs z n k val w q i ln s u m sp r1 r2 sh a L false true true true) 50 4 none 142 (r4.take 2) (canon 142 (ov [4, 7, 8, 9, 10, 12] (lv4 lv c w n) g) []) h [] =
  some (Out.exit 2, [], h, [], [IV.bool (decide ((↑n : Int) < 67)) = IV.bool false]) := by kernel_rfl
theorem r4_go : psR Try.prog tab (oc4 h0 h1 h2 h3 h hv lv sv tk rs z n k val w q i ln s u m sp r1 r2 sh a L true true true true) 50 4 none 142 (r4.take 2) (canon 142 (ov [4, 7, 8, 9, 10, 12] (lv4 lv c w n) g) []) h [4, 7, 8, 9, 10, 12] =
  some (Out.normal, [IV.ptr 2 0, IV.ptr 4 0, IV.int .i64 (↑c : Int), lv, IV.int .i64 (↑w : Int), IV.int .i64 (↑n : Int)], h, [], [IV.bool (decide ((↑n : Int) < 67)) = IV.bool true]) := by kernel_rfl
theorem r4_inc : psR Try.prog tab (oc4 h0 h1 h2 h3 h hv lv sv tk rs z n k val w q i ln s u m sp r1 r2 sh a L true true true true) 50 4 none 142 (r4.drop 3) (canon 142 (ov [4, 7, 8, 9, 10, 12] (lv4 lv c w n) g) []) h [4, 7, 8, 9, 10, 12] =
  some (Out.normal, [IV.ptr 2 0, IV.ptr 4 0, IV.int .i64 (↑c : Int), lv, IV.int .i64 (↑w : Int), IV.int .i64 (↑(n + 1) : Int)], h, [], [IV.int .i64 (IntKind.wrap .i64 ((↑n : Int) + 1)) = IV.int .i64 (↑(n + 1) : Int)]) := by kernel_rfl
theorem m4_no : psR Try.prog tab (oc4 h0 h1 h2 h3 h hv lv sv tk rs z n k val w q i ln s u m sp r1 r2 sh a L true false false true) 50 4 none 142 (m4.take 8) (canon 142 (ov [4, 7, 8, 9, 10, 12] (lv4 lv c w n) g) []) h [4, 7, 8, 9, 10, 12] =
  some (Out.exit 3, [IV.ptr 2 0, IV.ptr 4 0, IV.int .i64 (↑c : Int), lv, IV.int .i64 (↑w : Int), IV.int .i64 (↑n : Int)], h3, [], [
    H.get h 4 = some (Bx.cells [hv] 24, true), ldX (Bx.cells [hv] 24, true) true 1 0 = some (IV.agg [hv]), H.get h 2 = some (Bx.cells (tkL tk) 25, true), ldX (Bx.cells (tkL tk) 25, true) true 64 0 = some (IV.agg (tkL tk)), ClEq Try.prog (IV.func (IFn.func 7) [] []) [IV.agg [hv], IV.agg (tkL tk), IV.int .i64 (↑c : Int), IV.int .i64 (↑n : Int)] h (IV.tup [sv, IV.bool false]) h3, IV.bool (decide ((↑n : Int) ≤ (↑w : Int))) = IV.bool false, IV.bool false = IV.bool false, builtinI tab Builtin.len [27] [sv] h3 = some (IV.int .i64 (↑ln : Int), h3), IV.bool (decide ((↑ln : Int) > 0)) = IV.bool false]) := by kernel_rfl
theorem m4_go : psR Try.prog tab (oc4 h0 h1 h2 h3 h hv lv sv tk rs z n k val w q i ln s u m sp r1 r2 sh a L true true true true) 50 4 none 142 (m4.take 8) (canon 142 (ov [4, 7, 8, 9, 10, 12] (lv4 lv c w n) g) []) h [4, 7, 8, 9, 10, 12, 13, 15] =
  some (Out.normal, [IV.ptr 2 0, IV.ptr 4 0, IV.int .i64 (↑c : Int), lv, IV.int .i64 (↑w : Int), IV.int .i64 (↑n : Int), sv, IV.int .i64 0], h3, [], [
    H.get h 4 = some (Bx.cells [hv] 24, true), ldX (Bx.cells [hv] 24, true) true 1 0 = some (IV.agg [hv]), H.get h 2 = some (Bx.cells (tkL tk) 25, true), ldX (Bx.cells (tkL tk) 25, true) true 64 0 = some (IV.agg (tkL tk)), ClEq Try.prog (IV.func (IFn.func 7) [] []) [IV.agg [hv], IV.agg (tkL tk), IV.int .i64 (↑c : Int), IV.int .i64 (↑n : Int)] h (IV.tup [sv, IV.bool true]) h3, IV.bool (decide ((↑n : Int) ≤ (↑w : Int))) = IV.bool true, IV.bool false = IV.bool false, builtinI tab Builtin.len [27] [sv] h3 = some (IV.int .i64 (↑ln : Int), h3), IV.bool ((↑ln : Int) != (↑n : Int)) = IV.bool false, ClEq Try.prog (IV.func (IFn.func 13) [] []) [sv] h3 (IV.int .i64 (↑sp : Int)) h3, ClEq Try.prog (IV.func (IFn.func 14) [] []) [lv, IV.int .i64 (↑n : Int)] h3 (IV.int .i64 (↑sp : Int)) h3, IV.bool ((↑sp : Int) != (↑sp : Int)) = IV.bool false]) := by kernel_rfl
def lv4i (lv : IV) (c w n : Nat) (sv : IV) (i : Nat) : List IV := [.ptr 2 0, .ptr 4 0, .int .i64 (c : Nat), lv, .int .i64 (w : Nat), .int .i64 (n : Nat), sv, .int .i64 (i : Nat)]
theorem t4_end : pxR Try.prog tab (oc4 h0 h1 h2 h3 h hv lv sv tk rs z n k val w q i ln s u m sp r1 r2 sh a L false true true true) 50 4 none 142 (loopAt m4 8) (canon 142 (ov [4, 7, 8, 9, 10, 12, 13, 15] (lv4i lv c w n sv i) g) []) h [4, 7, 8, 9, 10, 12] =
  some (Out.exit 4, [IV.ptr 2 0, IV.ptr 4 0, IV.int .i64 (↑c : Int), lv, IV.int .i64 (↑w : Int), IV.int .i64 (↑n : Int)], h, [], [IV.bool (decide ((↑i : Int) < (↑n : Int))) = IV.bool false]) := by kernel_rfl
theorem t4_z : pxR Try.prog tab (oc4 h0 h1 h2 h3 h hv lv sv tk rs z n k val w q i ln s u m sp r1 r2 sh a L true true true false) 50 4 none 142 (loopAt m4 8) (canon 142 (ov [4, 7, 8, 9, 10, 12, 13, 15] (lv4i lv c w n sv i) g) []) h [4, 7, 8, 9, 10, 12, 13, 15] =
  some (Out.normal, [IV.ptr 2 0, IV.ptr 4 0, IV.int .i64 (↑c : Int), lv, IV.int .i64 (↑w : Int), IV.int .i64 (↑n : Int), sv, IV.int .i64 (↑(i + 1) : Int)], h, [], [
    IV.bool (decide ((↑i : Int) < (↑n : Int))) = IV.bool true, indexAddrI tab 27 sv (IV.int .i64 (↑i : Int)) = some (IV.ptr q i), H.get h q = some (Bx.cells (nints L) 3, true), ldX (Bx.cells (nints L) 3, true) false 1 i = some (IV.int .i64 (↑s : Int)), IV.bool (decide ((↑s : Int) < 0)) = IV.bool false, H.get h 4 = some (Bx.cells [hv] 24, true), ldX (Bx.cells [hv] 24, true) false 1 (0 + 0) = some hv, builtinI tab Builtin.len [22] [hv] h = some (IV.int .i64 (↑m : Int), h), IV.int .i64 (IntKind.wrap .i64 (8 * (↑m : Int))) = IV.int .i64 (↑(8 * m) : Int), IV.bool (decide ((↑s : Int) ≥ (↑(8 * m) : Int))) = IV.bool false, indexAddrI tab 25 (IV.ptr 2 0) (IV.int .i64 (↑s : Int)) = some (IV.ptr 2 s), H.get h 2 = some (Bx.cells (tkL tk) 25, true), ldX (Bx.cells (tkL tk) 25, true) false 1 s = some (IV.bool false), H.get h 4 = some (Bx.cells [hv] 24, true), ldX (Bx.cells [hv] 24, true) false 1 (0 + 0) = some hv, IV.int .i64 (IntKind.wrap .i64 (Int.tdiv (↑s : Int) 8)) = IV.int .i64 (↑(s / 8) : Int), indexAddrI tab 22 hv (IV.int .i64 (↑(s / 8) : Int)) = some (IV.ptr 3 (s / 8 * 2)), H.get h 3 = some (Bx.cells (rowC rs) 39, true), ldX (Bx.cells (rowC rs) 39, true) false 1 (s / 8 * 2 + 0) = some (IV.int .i64 r1), IV.bool (r1 != (↑c : Int)) = IV.bool false, H.get h 4 = some (Bx.cells [hv] 24, true), ldX (Bx.cells [hv] 24, true) false 1 (0 + 0) = some hv, IV.int .i64 (IntKind.wrap .i64 (Int.tdiv (↑s : Int) 8)) = IV.int .i64 (↑(s / 8) : Int), indexAddrI tab 22 hv (IV.int .i64 (↑(s / 8) : Int)) = some (IV.ptr 3 (s / 8 * 2)), H.get h 3 = some (Bx.cells (rowC rs) 39, true), ldX (Bx.cells (rowC rs) 39, true) false 1 (s / 8 * 2 + 1) = some (IV.int .u8 r2), IV.int .i64 (Int.tmod (↑s : Int) 8) = IV.int .i64 (↑(s % 8) : Int), binI tab BinOp.shr 5 (Operand.tmp 0) (Operand.tmp 0) (IV.int .u8 r2) (IV.int .i64 (↑(s % 8) : Int)) = some (IV.int .u8 sh), IV.int .u8 (IntKind.wrap .u8 (↑(BitVec.toNat (BitVec.ofInt 8 sh &&& BitVec.ofInt 8 1)) : Int)) = IV.int .u8 a, IV.bool (a == 0) = IV.bool false, IV.bool (decide ((↑i : Int) > 0)) = IV.bool false, IV.int .i64 (IntKind.wrap .i64 ((↑i : Int) + 1)) = IV.int .i64 (↑(i + 1) : Int)]) := by kernel_rfl
theorem t4_go : pxR Try.prog tab (oc4 h0 h1 h2 h3 h hv lv sv tk rs z n k val w q i ln s u m sp r1 r2 sh a L true true true true) 50 4 none 142 (loopAt m4 8) (canon 142 (ov [4, 7, 8, 9, 10, 12, 13, 15] (lv4i lv c w n sv i) g) []) h [4, 7, 8, 9, 10, 12, 13, 15] =
  some (Out.normal, [IV.ptr 2 0, IV.ptr 4 0, IV.int .i64 (↑c : Int), lv, IV.int .i64 (↑w : Int), IV.int .i64 (↑n : Int), sv, IV.int .i64 (↑(i + 1) : Int)], h, [], [
    IV.bool (decide ((↑i : Int) < (↑n : Int))) = IV.bool true, indexAddrI tab 27 sv (IV.int .i64 (↑i : Int)) = some (IV.ptr q i), H.get h q = some (Bx.cells (nints L) 3, true), ldX (Bx.cells (nints L) 3, true) false 1 i = some (IV.int .i64 (↑s : Int)), IV.bool (decide ((↑s : Int) < 0)) = IV.bool false, H.get h 4 = some (Bx.cells [hv] 24, true), ldX (Bx.cells [hv] 24, true) false 1 (0 + 0) = some hv, builtinI tab Builtin.len [22] [hv] h = some (IV.int .i64 (↑m : Int), h), IV.int .i64 (IntKind.wrap .i64 (8 * (↑m : Int))) = IV.int .i64 (↑(8 * m) : Int), IV.bool (decide ((↑s : Int) ≥ (↑(8 * m) : Int))) = IV.bool false, indexAddrI tab 25 (IV.ptr 2 0) (IV.int .i64 (↑s : Int)) = some (IV.ptr 2 s), H.get h 2 = some (Bx.cells (tkL tk) 25, true), ldX (Bx.cells (tkL tk) 25, true) false 1 s = some (IV.bool false), H.get h 4 = some (Bx.cells [hv] 24, true), ldX (Bx.cells [hv] 24, true) false 1 (0 + 0) = some hv, IV.int .i64 (IntKind.wrap .i64 (Int.tdiv (↑s : Int) 8)) = IV.int .i64 (↑(s / 8) : Int), indexAddrI tab 22 hv (IV.int .i64 (↑(s / 8) : Int)) = some (IV.ptr 3 (s / 8 * 2)), H.get h 3 = some (Bx.cells (rowC rs) 39, true), ldX (Bx.cells (rowC rs) 39, true) false 1 (s / 8 * 2 + 0) = some (IV.int .i64 r1), IV.bool (r1 != (↑c : Int)) = IV.bool false, H.get h 4 = some (Bx.cells [hv] 24, true), ldX (Bx.cells [hv] 24, true) false 1 (0 + 0) = some hv, IV.int .i64 (IntKind.wrap .i64 (Int.tdiv (↑s : Int) 8)) = IV.int .i64 (↑(s / 8) : Int), indexAddrI tab 22 hv (IV.int .i64 (↑(s / 8) : Int)) = some (IV.ptr 3 (s / 8 * 2)), H.get h 3 = some (Bx.cells (rowC rs) 39, true), ldX (Bx.cells (rowC rs) 39, true) false 1 (s / 8 * 2 + 1) = some (IV.int .u8 r2), IV.int .i64 (Int.tmod (↑s : Int) 8) = IV.int .i64 (↑(s % 8) : Int), binI tab BinOp.shr 5 (Operand.tmp 0) (Operand.tmp 0) (IV.int .u8 r2) (IV.int .i64 (↑(s % 8) : Int)) = some (IV.int .u8 sh), IV.int .u8 (IntKind.wrap .u8 (↑(BitVec.toNat (BitVec.ofInt 8 sh &&& BitVec.ofInt 8 1)) : Int)) = IV.int .u8 a, IV.bool (a == 0) = IV.bool false, IV.bool (decide ((↑i : Int) > 0)) = IV.bool true, IV.int .i64 (IntKind.wrap .i64 ((↑i : Int) - 1)) = IV.int .i64 (↑(i - 1) : Int), indexAddrI tab 27 sv (IV.int .i64 (↑(i - 1) : Int)) = some (IV.ptr q (i - 1)), H.get h q = some (Bx.cells (nints L) 3, true), ldX (Bx.cells (nints L) 3, true) false 1 (i - 1) = some (IV.int .i64 (↑u : Int)), IV.bool (decide ((↑u : Int) ≥ (↑s : Int))) = IV.bool false, IV.int .i64 (IntKind.wrap .i64 ((↑i : Int) + 1)) = IV.int .i64 (↑(i + 1) : Int)]) := by kernel_rfl
theorem post4 : psR Try.prog tab (fun _ _ => none) 50 4 none 142 (l4.drop 11) (canon 142 (ov [] [] g) []) h [6] =
  some (Out.ret, [IV.bool true], h, [], []) := by kernel_rfl
end
end Go.Proofs.Ytjhgomacanffkaa
namespace Go.Proofs.Ytjhgomacanffkaa
open Go Sx Go.RowKit

structure J4 (rs : List (Int × Int)) (hv : IV) (tk : Nat → Bool) (L : List Nat) (h : H) : Prop where
  dom : ∀ i y, h.get i = some y → i < h.next
  g2 : h.get 2 = some (.cells (tkL tk) 25, true)
  g3 : h.get 3 = some (.cells (rowC rs) 39, true)
  g4 : h.get 4 = some (.cells [hv] 24, true)
  g5 : 0 < L.length → h.get 5 = some (.cells (nints L) 3, true)
theorem J4.grow {rs : List (Int × Int)} {hv : IV} {tk : Nat → Bool} {L : List Nat} {h h' : H} (j : J4 rs hv tk L h) (hg : Grows h h') (hd : ∀ i y, h'.get i = some y → i < h'.next) : J4 rs hv tk L h' :=
  ⟨hd, hg.2 _ _ j.g2, hg.2 _ _ j.g3, hg.2 _ _ j.g4, fun h => hg.2 _ _ (j.g5 h)⟩

theorem tdivN (a b : Nat) : (a : Int).tdiv (b : Int) = ((a / b : Nat) : Int) := by simp [Int.tdiv]
theorem sum_take_le (L : List Nat) (k : Nat) : (L.take k).sum ≤ L.sum := by
  conv => rhs; rw [← List.take_append_drop k L]
  rw [List.sum_append]; omega

theorem law4_sp {o0 : Option (Bx × Bool)} {av : IV} {off0 : Nat} {x0 : Bx × Bool} {ps : List (Int × Int)} (hp : Pairs (hL o0 none) av 0 off0 x0 ps) (tk : Nat → Bool) {z : Nat} (hz : z < 256) :
    Sp Try.prog 4 [av, .agg (tkL tk), .int .u8 (z : Nat)] (hL o0 none) fun v _ => v = .bool true := by
  have hx := made_hall hp.m
  have hml := madeP_length ps
  have dF1 : ∀ i y, (hF1 o0 tk).get i = some y → i < (hF1 o0 tk).next := dom_new (hL_dom o0 none)
  have q0 := made_cl (h := hF1 o0 tk) ⟨hp.len, hp.ix, hp.a, hp.b, hp.get.imp id fun e => by rw [← e]; kernel_rfl, hp.m⟩ dF1
  generalize hcp : madeC ps = cp at *
  generalize hrs : madeP ps = rs at *
  let hv : IV := .slice 3 0 rs.length cp
  have d3 : ∀ i y, (hF3 o0 tk rs hv).get i = some y → i < (hF3 o0 tk rs hv).next := dom_new (dom_new dF1)
  have k2 : (hF3 o0 tk rs hv).get 2 = some (.cells (tkL tk) 25, true) := by kernel_rfl
  have k3 : (hF3 o0 tk rs hv).get 3 = some (.cells (rowC rs) 39, true) := by kernel_rfl
  have k4 : (hF3 o0 tk rs hv).get 4 = some (.cells [hv] 24, true) := by kernel_rfl
  have ql := lengths_cl hx rfl ((z % 3 : Nat) : Int) tk k3
  have hsum := lens_sum ((z % 3 : Nat) : Int) tk rs
  have hf64 := free_le (rs := rs) (by omega) ((z % 3 : Nat) : Int) tk
  have hLl : (lAll ((z % 3 : Nat) : Int) tk rs 0 []).length = (runs rs ((z % 3 : Nat) : Int) tk).length := by rw [lens_eq, List.length_map]
  have hrl := runs_length (rs := rs) (by omega) ((z % 3 : Nat) : Int) tk
  have hfits := fun n h1 h2 => fits_law (rs := rs) (c := ((z % 3 : Nat) : Int)) (tk := tk) (n := n) h1 h2 (g := (lAll ((z % 3 : Nat) : Int) tk rs 0 []).length) (by omega)
  have hix : ∀ s, s < rs.length → indexAddrI tab 22 hv (.int .i64 (s : Nat)) = some (.ptr 3 (s * 2)) := fun s hs => by
    show indexAddrI tab 22 (.slice 3 0 rs.length cp) _ = _
    rw [ix_sl t22d t39s hs]; simp
  refine Sp.of_ev tab_ok Try.func4 (c := bodyC Try.prog 4) (by kernel_rfl) (Nat.le_of_ble_eq_true rfl) ?_
  show Ev Try.prog none 142 (bodyC Try.prog 4) (BodyQ tab [.tmp 6] _) _ _
  refine Ev.of_flat l4_eq ?_
  generalize hLL : lAll ((z % 3 : Nat) : Int) tk rs 0 [] = L at *
  generalize hcz : ((z % 3 : Nat) : Int) = cz at *
  obtain ⟨c, rfl⟩ : ∃ c : Nat, cz = c := ⟨z % 3, hcz.symm⟩
  obtain rfl : z % 3 = c := by exact_mod_cast hcz
  have hn5 : (hF3 o0 tk rs hv).next = 5 := by kernel_rfl
  rw [hn5] at ql
  obtain ⟨hg2, hd2⟩ := newL_grows d3 L.length (nints L) 3
  have j0 : J4 rs hv tk L (newL (hF3 o0 tk rs hv) L.length (nints L) 3) := ⟨hd2, hg2.2 _ _ k2, hg2.2 _ _ k3, hg2.2 _ _ k4, fun hp => by have := newL_get (h := hF3 o0 tk rs hv) hp (nints L) 3; rwa [hn5] at this⟩
  refine EvS.px tab_ok mixed (FrIs.start 142 _) (by simp) (pre4 o0 _ (hF1 o0 tk) (hF1 o0 tk) av hv (slV 5 L.length) .nilslice tk rs z 0 0 0 0 0 0 0 0 0 0 0 0 0 0 0 []) ⟨works_cl _, q0, rfl, cW rfl (by omega) (by omega), rfl, k4, rfl, k2, tk_ld tk, ql, trivial⟩ fun fr g hf => ?_
  generalize newL (hF3 o0 tk rs hv) L.length (nints L) 3 = h2 at *
  have qx : ∀ i v, L[i]? = some v → i < L.length := fun i v h => (List.getElem?_eq_some_iff.1 h).1
  -- the sum
  refine EvS.loop (fun t fr h' => ∃ k, k ≤ L.length ∧ t = L.length - k ∧ h' = h2 ∧ ∃ g, FrIs 142 fr (ov [4, 7, 8, 9, 10, 11] (lv4 (slV 5 L.length) (z % 3) (L.take k).sum k) g) []) L.length
    ⟨0, by omega, by omega, rfl, g, hf⟩ ?_
  rintro t fr h' ⟨k, hk, rfl, rfl, g, hf4⟩
  by_cases hkl : k < L.length
  · obtain ⟨v, hv'⟩ : ∃ v, L[k]? = some v := ⟨L[k], by simp [hkl]⟩
    have htk : (L.take (k + 1)).sum = (L.take k).sum + v := by rw [List.take_add_one, hv']; simp
    have hle := sum_take_le L (k + 1)
    refine Ev.px tab_ok mixed hf4 (s4_go h' h' h' h' h' hv (slV 5 L.length) .nilslice tk rs z L.length k v (L.take k).sum 5 0 0 0 0 0 0 (z % 3) 0 0 0 0 L g) ⟨len_slV t27d _ _ _, cT (by omega), xN hkl, j0.g5 (by omega), lN hv', cW (by omega) (by omega) (by omega), cW (by omega) (by omega) (by omega), trivial⟩ fun fr5 g5 hf5 => ?_
    exact ⟨L.length - (k + 1), by omega, k + 1, by omega, rfl, rfl, g5, by rw [htk]; exact hf5⟩
  obtain rfl : k = L.length := by omega
  rw [List.take_length] at hf4
  refine Ev.px tab_ok mixed hf4 (s4_end h' h' h' h' h' hv (slV 5 L.length) .nilslice tk rs z L.length L.length 0 L.sum 5 0 0 0 0 0 0 (z % 3) 0 0 0 0 L g) ⟨len_slV t27d _ _ _, cF (by omega), trivial⟩ fun fr5 g5 hf5 => ?_
  refine RoundEnds.out ?_
  rw [l4_eq2]
  refine EvS.px tab_ok mixed hf5 (by simp) (mid4 h' h' h' h' h' hv (slV 5 L.length) .nilslice tk rs z 0 0 0 L.sum 5 0 0 0 0 0 0 (z % 3) 0 0 0 0 L g5) trivial fun fr6 g6 hf6 => ?_
  -- how many are asked for
  refine EvS.loop (fun t fr h => ∃ n, 1 ≤ n ∧ n ≤ 67 ∧ t = 67 - n ∧ J4 rs hv tk L h ∧ ∃ g, FrIs 142 fr (ov [4, 7, 8, 9, 10, 12] (lv4 (slV 5 L.length) (z % 3) L.sum n) g) []) 66
    ⟨1, by omega, by omega, by omega, j0, g6, hf6⟩ ?_
  clear hf hf4 hf5 hf6 j0 hg2 hd2 ql
  rintro t fr h ⟨n, hn1, hn, rfl, j, g, hf⟩
  refine Ev.of_flat r4_eq ?_
  by_cases hlt : n < 67
  case neg =>
    refine EvS.px tab_ok mixed hf (by simp) (r4_end h h h h h hv (slV 5 L.length) .nilslice tk rs z n 0 0 L.sum 5 0 0 0 0 0 0 (z % 3) 0 0 0 0 L g) ⟨cF (by omega), trivial⟩ fun fr2 g2 hf2 => ?_
    simp only [Out.next]
    refine RoundEnds.out ?_
    refine EvS.pxEnd tab_ok mixed hf2 (List.cons_ne_nil _ _) (post4 h g2) trivial fun fr3 g3 hf3 => ?_
    have e4 : fr3.tm.tmp 6 = .bool true := hf3.2 6 (by decide)
    exact ⟨.inr rfl, h, [.bool true], by rw [hf3.1]; rfl, by simp only [resI, e4, Option.map_some], rfl⟩
  refine EvS.px tab_ok mixed hf (by simp) (r4_go h h h h h hv (slV 5 L.length) .nilslice tk rs z n 0 0 L.sum 5 0 0 0 0 0 0 (z % 3) 0 0 0 0 L g) ⟨cT (by omega), trivial⟩ fun fr2 g2 hf2 => ?_
  have qc := choose_cl hx ((z % 3 : Nat) : Int) (n : Nat) tk j.g3
  obtain ⟨hnd, hfree⟩ := choose_ok (rs := rs) (c := ((z % 3 : Nat) : Int)) (tk := tk) (n : Nat)
  have hpw := choose_pw (rs := rs) (c := ((z % 3 : Nat) : Int)) (tk := tk) (n : Nat)
  have hPl := choose_len (rs := rs) (c := ((z % 3 : Nat) : Int)) (tk := tk) (n : Nat)
  have hfit := fun h2 => hfits n hn1 h2
  have hPn : n ≤ (free rs ((z % 3 : Nat) : Int) tk).length → (chooseP rs ((z % 3 : Nat) : Int) tk (n : Nat)).length = n := fun h => by
    unfold chooseP
    rw [if_pos ⟨by omega, by omega⟩, sortN_length, Int.toNat_natCast]
    exact (search_ok rs _ n n tk (Nat.le_refl _) h).1
  have hP0 : ¬ n ≤ (free rs ((z % 3 : Nat) : Int) tk).length → (chooseP rs ((z % 3 : Nat) : Int) tk (n : Nat)).length = 0 := fun h => by
    unfold chooseP
    rw [if_neg (by omega)]; rfl
  have hokT : n ≤ L.sum → okP rs ((z % 3 : Nat) : Int) tk (n : Nat) = true := fun h => by unfold okP; rw [decide_eq_true (by omega)]
  have hokF : ¬ n ≤ L.sum → okP rs ((z % 3 : Nat) : Int) tk (n : Nat) = false := fun h => by unfold okP; rw [decide_eq_false (by omega)]
  generalize chooseP rs ((z % 3 : Nat) : Int) tk (n : Nat) = P at *
  obtain ⟨hg3, hd3⟩ := newL_grows j.dom P.length (nints P) 3
  have j3 := j.grow hg3 hd3
  have hq3 : 0 < P.length → (newL h P.length (nints P) 3).get h.next = some (.cells (nints P) 3, true) := fun hp => newL_get hp _ _
  generalize newL h P.length (nints P) 3 = h3 at *
  have inc : ∀ {fr : Fr} {h : H} {g : Nat → IV}, J4 rs hv tk L h → FrIs 142 fr (ov [4, 7, 8, 9, 10, 12] (lv4 (slV 5 L.length) (z % 3) L.sum n) g) [] → EvS Try.prog none 142 (r4.drop 3)
      (RoundEnds Try.prog none 142 2 (l4.drop 11) (BodyQ tab [.tmp 6] fun v _ => v = .bool true) (fun t fr h => ∃ n, 1 ≤ n ∧ n ≤ 67 ∧ t = 67 - n ∧ J4 rs hv tk L h ∧ ∃ g, FrIs 142 fr (ov [4, 7, 8, 9, 10, 12] (lv4 (slV 5 L.length) (z % 3) L.sum n) g) []) (67 - n)) fr h := by
    intro fr h g j hf
    refine EvS.pxEnd tab_ok mixed hf (List.cons_ne_nil _ _) (r4_inc h h h h h hv (slV 5 L.length) .nilslice tk rs z n 0 0 L.sum 5 0 0 0 0 0 0 (z % 3) 0 0 0 0 L g) ⟨cW (by omega) (by omega) (by omega), trivial⟩ fun fr5 g5 hf5 => ?_
    exact ⟨67 - (n + 1), by omega, n + 1, by omega, by omega, rfl, j, g5, hf5⟩
  refine Ev.block (Ev.of_flat m4_eq ?_)
  by_cases hall : n ≤ L.sum
  case neg =>
    rw [hokF hall] at qc
    have h0 := hP0 (by omega)
    refine EvS.px tab_ok mixed hf2 (by simp) (m4_no h h h h3 h hv (slV 5 L.length) (slV h.next P.length) tk rs z n 0 0 L.sum 5 0 P.length 0 0 0 0 (z % 3) 0 0 0 0 L g2) ⟨j.g4, rfl, j.g2, tk_ld tk, qc, cF (by omega), rfl, len_slV t27d _ _ _, cF (by omega), trivial⟩ fun fr3 g3 hf3 => ?_
    exact inc j3 hf3
  rw [hokT hall] at qc
  have hP := hPn (by omega)
  have h3lt : ∀ v ∈ P, v < 64 := fun v hv => free_lt (rs := rs) (by omega) (hfree v hv)
  have q13 := spread_cl (h := h3) (q := h.next) (L := P) (wr := true) hq3 (fun v hv => by have := h3lt v hv; omega) (by omega)
  have q14 := need_cl (h := h3) (q := 5) (n := n) (L := L) (wr := true) j3.dom (j3.g5 (by
    cases L with
    | nil => simp at hall; omega
    | cons a L => simp)) hn1 hall (by omega) (by omega)
  rw [← hfit (by omega)] at q14
  refine EvS.px tab_ok mixed hf2 (by simp) (m4_go h h h h3 h hv (slV 5 L.length) (slV h.next P.length) tk rs z n 0 0 L.sum 5 0 P.length 0 0 0 _ (z % 3) 0 0 0 0 L g2) ⟨j.g4, rfl, j.g2, tk_ld tk, qc, cT (by omega), rfl, len_slV t27d _ _ _, nF (by omega), q13, q14, nF rfl, trivial⟩ fun fr3 g3 hf3 => ?_
  refine EvS.loop (fun t fr h' => ∃ i, i ≤ n ∧ t = n - i ∧ h' = h3 ∧ ∃ g, FrIs 142 fr (ov [4, 7, 8, 9, 10, 12, 13, 15] (lv4i (slV 5 L.length) (z % 3) L.sum n (slV h.next P.length) i) g) []) n
    ⟨0, by omega, by omega, rfl, g3, hf3⟩ ?_
  rintro t fr h' ⟨i, hi, rfl, rfl, g, hf4⟩
  by_cases hil : i < n
  case neg =>
    obtain rfl : i = n := by omega
    refine Ev.px tab_ok mixed hf4 (t4_end h h h h' h' hv (slV 5 L.length) (slV h.next P.length) tk rs z i 0 0 L.sum 5 i P.length 0 0 0 0 (z % 3) 0 0 0 0 L g) ⟨cF (by omega), trivial⟩ fun fr5 g5 hf5 => ?_
    refine RoundEnds.out ?_
    exact inc j3 hf5
  obtain ⟨s, hs⟩ : ∃ s, P[i]? = some s := ⟨P[i], by simp [show i < P.length by omega]⟩
  have hsf := hfree s (List.mem_of_getElem? hs)
  have hs64 := h3lt s (List.mem_of_getElem? hs)
  obtain ⟨r, hr, hr1, hr2, hst⟩ := free_out hsf
  have hrl := (List.getElem?_eq_some_iff.1 hr).1
  have hrm := hx.m r (List.mem_of_getElem? hr)
  obtain ⟨_, e1, e2⟩ := rowC_agg rs true (s / 8) r hr
  have hgP := hq3 (by omega)
  have hb1 : r.2.toNat / 2 ^ (s % 8) % 2 = 1 := by unfold bit at hr2; simpa using hr2
  have q1 : AllP [indexAddrI tab 27 (slV h.next P.length) (.int .i64 (i : Nat)) = some (.ptr h.next i), h'.get h.next = some (.cells (nints P) 3, true), ldX (.cells (nints P) 3, true) false 1 i = some (.int .i64 (s : Nat))] := ⟨xN (by omega), hgP, lN hs, trivial⟩
  have elen : builtinI tab .len [22] [hv] h' = some (.int .i64 (rs.length : Nat), h') := len_slice t22d _ _ _ _ _
  by_cases hi0 : i = 0
  · refine Ev.px tab_ok mixed hf4 (t4_z h h h h' h' hv (slV 5 L.length) (slV h.next P.length) tk rs z n 0 0 L.sum h.next i P.length s 0 rs.length 0 (z % 3) r.1 r.2 _ _ P g) ⟨cT (by omega), q1.1, q1.2.1, q1.2.2.1, cF (by omega), j3.g4, rfl, elen, cW (by omega) (by omega) (by omega), cF (by omega), ?_, j3.g2, ?_, j3.g4, rfl, cW (tdivN s 8) (by omega) (by omega), hix _ hrl, j3.g3, ?_, nF hr1, j3.g4, rfl, cW (tdivN s 8) (by omega) (by omega), hix _ hrl, j3.g3, ?_, rfl, shr_ok hrm.1 (by omega), and_ok _, eF (by omega), cF (by omega), cW (by omega) (by omega) (by omega), trivial⟩ fun fr5 g5 hf5 => ?_
    · rw [ix_arr t25d t4s hs64]; simp
    · show (tkL tk)[s]? = _
      rw [tkL_get hs64, hst]
    · simpa using e1
    · simpa using e2
    · exact ⟨n - (i + 1), by omega, i + 1, by omega, rfl, rfl, g5, hf5⟩
  · obtain ⟨u, hu⟩ : ∃ u, P[i - 1]? = some u := ⟨P[i - 1], by simp [show i - 1 < P.length by omega]⟩
    have hus : u < s := by
      have h1 := List.pairwise_iff_getElem.1 hpw (i - 1) i (by omega) (by omega) (by omega)
      have h2 := (List.getElem?_eq_some_iff.1 hu).2
      have h3 := (List.getElem?_eq_some_iff.1 hs).2
      rw [h2, h3] at h1; exact h1
    refine Ev.px tab_ok mixed hf4 (t4_go h h h h' h' hv (slV 5 L.length) (slV h.next P.length) tk rs z n 0 0 L.sum h.next i P.length s u rs.length 0 (z % 3) r.1 r.2 _ _ P g) ⟨cT (by omega), q1.1, q1.2.1, q1.2.2.1, cF (by omega), j3.g4, rfl, elen, cW (by omega) (by omega) (by omega), cF (by omega), ?_, j3.g2, ?_, j3.g4, rfl, cW (tdivN s 8) (by omega) (by omega), hix _ hrl, j3.g3, ?_, nF hr1, j3.g4, rfl, cW (tdivN s 8) (by omega) (by omega), hix _ hrl, j3.g3, ?_, rfl, shr_ok hrm.1 (by omega), and_ok _, eF (by omega), cT (by omega),
      cW (by omega) (by omega) (by omega), xN (by omega), hgP, lN hu, cF (by omega), cW (by omega) (by omega) (by omega), trivial⟩ fun fr5 g5 hf5 => ?_
    · rw [ix_arr t25d t4s hs64]; simp
    · show (tkL tk)[s]? = _
      rw [tkL_get hs64, hst]
    · simpa using e1
    · simpa using e2
    · exact ⟨n - (i + 1), by omega, i + 1, by omega, rfl, rfl, g5, hf5⟩
end Go.Proofs.Ytjhgomacanffkaa
