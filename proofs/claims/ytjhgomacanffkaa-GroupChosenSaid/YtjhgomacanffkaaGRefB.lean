/- The reference's choose and Choose as contracts. -/
import Derived.Test.YtjhgomacanffkaaGRef
namespace Go.Proofs.Ytjhgomacanffkaa
open Go Sx Go.RowKit
-- STOPS tkL, nints, hvS, slV, boxH, rcells, hQ

theorem enters20 : Go.Proofs.Enters Try.prog 20 := Go.Proofs.enters_of Try.func20 (by kernel_rfl) rfl
noncomputable def l20 : List Code := flat (bodyC Try.prog 20)
theorem l20_eq : flat (bodyC Try.prog 20) = l20.take 4 ++ (.block 0 (.loop (loopAt l20 4)) :: l20.drop 5) := by kernel_rfl
theorem l20_eq2 : l20.drop 5 = (l20.drop 5).take 2 ++ (.block 2 (.loop (loopAt l20 7)) :: l20.drop 8) := by kernel_rfl
theorem l20_eq3 : l20.drop 8 = (l20.drop 8).take 2 ++ (.block 4 (.loop (loopAt l20 10)) :: l20.drop 11) := by kernel_rfl

def hQ (x : Bx) (hv : IV) (tk : Nat → Bool) (L : List (Nat × Nat)) : H := (((boxH [x]).new (.cells [hv] 24)).new (.cells (tkL tk) 25)).new (.cells (rcells L) 26)

def oc20 (hv lv v v2 v3 : IV) (tk tk' : Nat → Bool) (h h1 h2 h9 h10 : H) (i m b k a ri rb d : Nat) (L : List (Nat × Nat)) (lt ge neg ls : Bool) : Nat → Nat → Option It := fun f t => match f, t with
  | 20, 16 => some (.l (.agg [hv]) (.cells [hv] 24, true))
  | 20, 18 => some (.l (.agg (tkL tk)) (.cells (tkL tk) 25, true))
  | 20, 19 => some (.c lv h1)
  | 20, 22 => some (.g (.int .i64 (m : Nat)) h)
  | 20, 23 => some (.w (.bool lt))
  | 20, 28 => some (.o (.ptr 3 (i * 2)))
  | 20, 29 => some (.o (.ptr 3 (i * 2 + 1)))
  | 20, 30 => some (.l (.int .i64 (ri : Nat)) (.cells (rcells L) 26, true))
  | 20, 32 => some (.w (.bool ge))
  | 20, 35 => some (.w (.bool neg))
  | 20, 39 => some (.o (.ptr 3 (i * 2)))
  | 20, 40 => some (.o (.ptr 3 (i * 2 + 1)))
  | 20, 41 => some (.l (.int .i64 (ri : Nat)) (.cells (rcells L) 26, true))
  | 20, 44 => some (.o (.ptr 3 (b * 2)))
  | 20, 45 => some (.o (.ptr 3 (b * 2 + 1)))
  | 20, 46 => some (.l (.int .i64 (rb : Nat)) (.cells (rcells L) 26, true))
  | 20, 47 => some (.w (.bool ls))
  | 20, 25 => some (.w (.int .i64 ((i + 1 : Nat) : Int)))
  | 20, 52 => some (.w (.bool neg))
  | 20, 55 => some (.g (.int .i64 (m : Nat)) h)
  | 20, 56 => some (.w (.bool lt))
  | 20, 63 => some (.w (.bool neg))
  | 20, 67 => some (.o (.ptr 3 (i * 2)))
  | 20, 68 => some (.o (.ptr 3 (i * 2 + 1)))
  | 20, 69 => some (.l (.int .i64 (ri : Nat)) (.cells (rcells L) 26, true))
  | 20, 72 => some (.o (.ptr 3 (b * 2)))
  | 20, 73 => some (.o (.ptr 3 (b * 2 + 1)))
  | 20, 74 => some (.l (.int .i64 (rb : Nat)) (.cells (rcells L) 26, true))
  | 20, 75 => some (.w (.bool ls))
  | 20, 61 => some (.w (.int .i64 ((i + 1 : Nat) : Int)))
  | 20, 81 => some (.o (.ptr 3 (b * 2)))
  | 20, 82 => some (.o (.ptr 3 (b * 2 + 1)))
  | 20, 83 => some (.l (.int .i64 (rb : Nat)) (.cells (rcells L) 26, true))
  | 20, 84 => some (.w (.bool lt))
  | 20, 88 => some (.w (.bool ge))
  | 20, 95 => some (.o (.ptr 3 (b * 2)))
  | 20, 96 => some (.o (.ptr 3 (b * 2)))
  | 20, 97 => some (.l (.int .i64 (a : Nat)) (.cells (rcells L) 26, true))
  | 20, 99 => some (.w (.int .i64 ((a + k : Nat) : Int)))
  | 20, 101 => some (.g v h2)
  | 20, 104 => some (.o (.ptr 3 (b * 2)))
  | 20, 105 => some (.o (.ptr 3 (b * 2)))
  | 20, 106 => some (.l (.int .i64 (a : Nat)) (.cells (rcells L) 26, true))
  | 20, 108 => some (.w (.int .i64 ((a + k : Nat) : Int)))
  | 20, 109 => some (.o (.ptr 2 (a + k)))
  | 20, 1109 => some (.t (tkL tk) 25 (tkL tk'))
  | 20, 91 => some (.w (.int .i64 ((k + 1 : Nat) : Int)))
  | 20, 114 => some (.l (.agg [hv]) (.cells [hv] 24, true))
  | 20, 115 => some (.l (.agg (tkL tk)) (.cells (tkL tk) 25, true))
  | 20, 119 => some (.g (.int .i64 (m : Nat)) h)
  | 20, 120 => some (.w (.int .i64 (d : Nat)))
  | 20, 121 => some (.c v2 h9)
  | 20, 122 => some (.g v3 h10)
  | _, _ => none
section
variable (x : Bx) (hv lv v v2 v3 : IV) (tk tk' : Nat → Bool) (h h1 h2 h9 h10 : H) (c be : Int) (n i m b k a ri rb d : Nat) (L : List (Nat × Nat)) (lt ge neg ls wh : Bool) (g : Nat → IV)
theorem pre20 : psR Try.prog tab (oc20 hv lv v v2 v3 tk tk' h (hQ x hv tk L) h2 h9 h10 i m b k a ri rb d L true true true true) 50 20 none 123 (l20.take 4) (canon 123 (fun j => [IV.agg [hv], .agg (tkL tk), .int .i64 c, .int .i64 (n : Nat)].getD j undefI) []) (boxH [x]) [2, 3, 4, 5, 9, 10, 11] =
  some (Out.normal, [IV.int .i64 c, IV.int .i64 (↑n : Int), IV.ptr 1 0, IV.ptr 2 0, lv, IV.int .i64 (-1 : Int), IV.int .i64 0], hQ x hv tk L, [], [
    H.get (H.new (H.new (boxH [x]) (Bx.cells [hv] 24)) (Bx.cells (tkL tk) 25)) 1 = some (Bx.cells [hv] 24, true), ldX (Bx.cells [hv] 24, true) true 1 0 = some (IV.agg [hv]), H.get (H.new (H.new (boxH [x]) (Bx.cells [hv] 24)) (Bx.cells (tkL tk) 25)) 2 = some (Bx.cells (tkL tk) 25, true), ldX (Bx.cells (tkL tk) 25, true) true 64 0 = some (IV.agg (tkL tk)), ClEq Try.prog (IV.func (IFn.func 34) [] []) [IV.agg [hv], IV.int .i64 c, IV.agg (tkL tk)] (H.new (H.new (boxH [x]) (Bx.cells [hv] 24)) (Bx.cells (tkL tk) 25)) lv (hQ x hv tk L)]) := by kernel_rfl
def lv20 (c : Int) (n : Nat) (lv : IV) (be : Int) (i : Nat) : List IV := [.int .i64 c, .int .i64 (n : Nat), .ptr 1 0, .ptr 2 0, lv, .int .i64 be, .int .i64 (i : Nat)]
theorem a20_end : pxR Try.prog tab (oc20 hv lv v v2 v3 tk tk' h h1 h2 h9 h10 i m b k a ri rb d L false true true true) 50 20 none 123 (loopAt l20 4) (canon 123 (ov [2, 3, 4, 5, 9, 10, 11] (lv20 c n lv be i) g) []) h [2, 3, 4, 5, 9, 10] =
  some (Out.exit 0, [IV.int .i64 c, IV.int .i64 (↑n : Int), IV.ptr 1 0, IV.ptr 2 0, lv, IV.int .i64 be], h, [], [builtinI tab Builtin.len [53] [lv] h = some (IV.int .i64 (↑m : Int), h), IV.bool (decide ((↑i : Int) < (↑m : Int))) = IV.bool false]) := by kernel_rfl
theorem a20_lt : pxR Try.prog tab (oc20 hv lv v v2 v3 tk tk' h h1 h2 h9 h10 i m b k a ri rb d L true false true true) 50 20 none 123 (loopAt l20 4) (canon 123 (ov [2, 3, 4, 5, 9, 10, 11] (lv20 c n lv be i) g) []) h [2, 3, 4, 5, 9, 10, 11] =
  some (Out.normal, [IV.int .i64 c, IV.int .i64 (↑n : Int), IV.ptr 1 0, IV.ptr 2 0, lv, IV.int .i64 be, IV.int .i64 (↑(i + 1) : Int)], h, [], [
    builtinI tab Builtin.len [53] [lv] h = some (IV.int .i64 (↑m : Int), h), IV.bool (decide ((↑i : Int) < (↑m : Int))) = IV.bool true, indexAddrI tab 53 lv (IV.int .i64 (↑i : Int)) = some (IV.ptr 3 (i * 2)), indexAddrI tab 26 (IV.ptr 3 (i * 2)) (IV.int .i64 1) = some (IV.ptr 3 (i * 2 + 1)), H.get h 3 = some (Bx.cells (rcells L) 26, true), ldX (Bx.cells (rcells L) 26, true) false 1 (i * 2 + 1) = some (IV.int .i64 (↑ri : Int)), IV.bool (decide ((↑ri : Int) ≥ (↑n : Int))) = IV.bool false, IV.int .i64 (IntKind.wrap .i64 ((↑i : Int) + 1)) = IV.int .i64 (↑(i + 1) : Int)]) := by kernel_rfl
theorem a20_first : pxR Try.prog tab (oc20 hv lv v v2 v3 tk tk' h h1 h2 h9 h10 i m b k a ri rb d L true true true true) 50 20 none 123 (loopAt l20 4) (canon 123 (ov [2, 3, 4, 5, 9, 10, 11] (lv20 c n lv be i) g) []) h [2, 3, 4, 5, 9, 10, 11] =
  some (Out.normal, [IV.int .i64 c, IV.int .i64 (↑n : Int), IV.ptr 1 0, IV.ptr 2 0, lv, IV.int .i64 (↑i : Int), IV.int .i64 (↑(i + 1) : Int)], h, [], [
    builtinI tab Builtin.len [53] [lv] h = some (IV.int .i64 (↑m : Int), h), IV.bool (decide ((↑i : Int) < (↑m : Int))) = IV.bool true, indexAddrI tab 53 lv (IV.int .i64 (↑i : Int)) = some (IV.ptr 3 (i * 2)), indexAddrI tab 26 (IV.ptr 3 (i * 2)) (IV.int .i64 1) = some (IV.ptr 3 (i * 2 + 1)), H.get h 3 = some (Bx.cells (rcells L) 26, true), ldX (Bx.cells (rcells L) 26, true) false 1 (i * 2 + 1) = some (IV.int .i64 (↑ri : Int)), IV.bool (decide ((↑ri : Int) ≥ (↑n : Int))) = IV.bool true, IV.bool (decide (be < 0)) = IV.bool true, IV.int .i64 (IntKind.wrap .i64 ((↑i : Int) + 1)) = IV.int .i64 (↑(i + 1) : Int)]) := by kernel_rfl
theorem a20_less : pxR Try.prog tab (oc20 hv lv v v2 v3 tk tk' h h1 h2 h9 h10 i m b k a ri rb d L true true false true) 50 20 none 123 (loopAt l20 4) (canon 123 (ov [2, 3, 4, 5, 9, 10, 11] (lv20 c n lv be i) g) []) h [2, 3, 4, 5, 9, 10, 11] =
  some (Out.normal, [IV.int .i64 c, IV.int .i64 (↑n : Int), IV.ptr 1 0, IV.ptr 2 0, lv, IV.int .i64 (↑i : Int), IV.int .i64 (↑(i + 1) : Int)], h, [], [
    builtinI tab Builtin.len [53] [lv] h = some (IV.int .i64 (↑m : Int), h), IV.bool (decide ((↑i : Int) < (↑m : Int))) = IV.bool true, indexAddrI tab 53 lv (IV.int .i64 (↑i : Int)) = some (IV.ptr 3 (i * 2)), indexAddrI tab 26 (IV.ptr 3 (i * 2)) (IV.int .i64 1) = some (IV.ptr 3 (i * 2 + 1)), H.get h 3 = some (Bx.cells (rcells L) 26, true), ldX (Bx.cells (rcells L) 26, true) false 1 (i * 2 + 1) = some (IV.int .i64 (↑ri : Int)), IV.bool (decide ((↑ri : Int) ≥ (↑n : Int))) = IV.bool true, IV.bool (decide (be < 0)) = IV.bool false, indexAddrI tab 53 lv (IV.int .i64 (↑i : Int)) = some (IV.ptr 3 (i * 2)), indexAddrI tab 26 (IV.ptr 3 (i * 2)) (IV.int .i64 1) = some (IV.ptr 3 (i * 2 + 1)), H.get h 3 = some (Bx.cells (rcells L) 26, true), ldX (Bx.cells (rcells L) 26, true) false 1 (i * 2 + 1) = some (IV.int .i64 (↑ri : Int)), indexAddrI tab 53 lv (IV.int .i64 be) = some (IV.ptr 3 (b * 2)), indexAddrI tab 26 (IV.ptr 3 (b * 2)) (IV.int .i64 1) = some (IV.ptr 3 (b * 2 + 1)), H.get h 3 = some (Bx.cells (rcells L) 26, true), ldX (Bx.cells (rcells L) 26, true) false 1 (b * 2 + 1) = some (IV.int .i64 (↑rb : Int)), IV.bool (decide ((↑ri : Int) < (↑rb : Int))) = IV.bool true, IV.int .i64 (IntKind.wrap .i64 ((↑i : Int) + 1)) = IV.int .i64 (↑(i + 1) : Int)]) := by kernel_rfl
theorem a20_more : pxR Try.prog tab (oc20 hv lv v v2 v3 tk tk' h h1 h2 h9 h10 i m b k a ri rb d L true true false false) 50 20 none 123 (loopAt l20 4) (canon 123 (ov [2, 3, 4, 5, 9, 10, 11] (lv20 c n lv be i) g) []) h [2, 3, 4, 5, 9, 10, 11] =
  some (Out.normal, [IV.int .i64 c, IV.int .i64 (↑n : Int), IV.ptr 1 0, IV.ptr 2 0, lv, IV.int .i64 be, IV.int .i64 (↑(i + 1) : Int)], h, [], [
    builtinI tab Builtin.len [53] [lv] h = some (IV.int .i64 (↑m : Int), h), IV.bool (decide ((↑i : Int) < (↑m : Int))) = IV.bool true, indexAddrI tab 53 lv (IV.int .i64 (↑i : Int)) = some (IV.ptr 3 (i * 2)), indexAddrI tab 26 (IV.ptr 3 (i * 2)) (IV.int .i64 1) = some (IV.ptr 3 (i * 2 + 1)), H.get h 3 = some (Bx.cells (rcells L) 26, true), ldX (Bx.cells (rcells L) 26, true) false 1 (i * 2 + 1) = some (IV.int .i64 (↑ri : Int)), IV.bool (decide ((↑ri : Int) ≥ (↑n : Int))) = IV.bool true, IV.bool (decide (be < 0)) = IV.bool false, indexAddrI tab 53 lv (IV.int .i64 (↑i : Int)) = some (IV.ptr 3 (i * 2)), indexAddrI tab 26 (IV.ptr 3 (i * 2)) (IV.int .i64 1) = some (IV.ptr 3 (i * 2 + 1)), H.get h 3 = some (Bx.cells (rcells L) 26, true), ldX (Bx.cells (rcells L) 26, true) false 1 (i * 2 + 1) = some (IV.int .i64 (↑ri : Int)), indexAddrI tab 53 lv (IV.int .i64 be) = some (IV.ptr 3 (b * 2)), indexAddrI tab 26 (IV.ptr 3 (b * 2)) (IV.int .i64 1) = some (IV.ptr 3 (b * 2 + 1)), H.get h 3 = some (Bx.cells (rcells L) 26, true), ldX (Bx.cells (rcells L) 26, true) false 1 (b * 2 + 1) = some (IV.int .i64 (↑rb : Int)), IV.bool (decide ((↑ri : Int) < (↑rb : Int))) = IV.bool false, IV.int .i64 (IntKind.wrap .i64 ((↑i : Int) + 1)) = IV.int .i64 (↑(i + 1) : Int)]) := by kernel_rfl
theorem mid20 : psR Try.prog tab (oc20 hv lv v v2 v3 tk tk' h h1 h2 h9 h10 i m b k a ri rb d L true true neg true) 50 20 none 123 ((l20.drop 5).take 2) (canon 123 (ov [2, 3, 4, 5, 9, 10] ((lv20 c n lv be i).take 6) g) []) h [2, 3, 4, 5, 9, 10, 12, 13] =
  some (Out.normal, [IV.int .i64 c, IV.int .i64 (↑n : Int), IV.ptr 1 0, IV.ptr 2 0, lv, IV.int .i64 be, IV.bool neg, IV.int .i64 0], h, [], [IV.bool (decide (be < 0)) = IV.bool neg]) := by kernel_rfl
def lv20b (c : Int) (n : Nat) (lv : IV) (be : Int) (wh : Bool) (i : Nat) : List IV := [.int .i64 c, .int .i64 (n : Nat), .ptr 1 0, .ptr 2 0, lv, .int .i64 be, .bool wh, .int .i64 (i : Nat)]
theorem b20_no : pxR Try.prog tab (oc20 hv lv v v2 v3 tk tk' h h1 h2 h9 h10 i m b k a ri rb d L true true true true) 50 20 none 123 (loopAt l20 7) (canon 123 (ov [2, 3, 4, 5, 9, 10, 12, 13] (lv20b c n lv be false i) g) []) h [2, 3, 4, 5, 9, 10, 12] =
  some (Out.exit 2, [IV.int .i64 c, IV.int .i64 (↑n : Int), IV.ptr 1 0, IV.ptr 2 0, lv, IV.int .i64 be, IV.bool false], h, [], [builtinI tab Builtin.len [53] [lv] h = some (IV.int .i64 (↑m : Int), h), IV.bool (decide ((↑i : Int) < (↑m : Int))) = IV.bool true]) := by kernel_rfl
theorem b20_end : pxR Try.prog tab (oc20 hv lv v v2 v3 tk tk' h h1 h2 h9 h10 i m b k a ri rb d L false true true true) 50 20 none 123 (loopAt l20 7) (canon 123 (ov [2, 3, 4, 5, 9, 10, 12, 13] (lv20b c n lv be wh i) g) []) h [2, 3, 4, 5, 9, 10, 12] =
  some (Out.exit 2, [IV.int .i64 c, IV.int .i64 (↑n : Int), IV.ptr 1 0, IV.ptr 2 0, lv, IV.int .i64 be, IV.bool wh], h, [], [builtinI tab Builtin.len [53] [lv] h = some (IV.int .i64 (↑m : Int), h), IV.bool (decide ((↑i : Int) < (↑m : Int))) = IV.bool false]) := by kernel_rfl
theorem b20_first : pxR Try.prog tab (oc20 hv lv v v2 v3 tk tk' h h1 h2 h9 h10 i m b k a ri rb d L true true true true) 50 20 none 123 (loopAt l20 7) (canon 123 (ov [2, 3, 4, 5, 9, 10, 12, 13] (lv20b c n lv be true i) g) []) h [2, 3, 4, 5, 9, 10, 12, 13] =
  some (Out.normal, [IV.int .i64 c, IV.int .i64 (↑n : Int), IV.ptr 1 0, IV.ptr 2 0, lv, IV.int .i64 (↑i : Int), IV.bool true, IV.int .i64 (↑(i + 1) : Int)], h, [], [
    builtinI tab Builtin.len [53] [lv] h = some (IV.int .i64 (↑m : Int), h), IV.bool (decide ((↑i : Int) < (↑m : Int))) = IV.bool true, IV.bool (decide (be < 0)) = IV.bool true, IV.int .i64 (IntKind.wrap .i64 ((↑i : Int) + 1)) = IV.int .i64 (↑(i + 1) : Int)]) := by kernel_rfl
theorem b20_more : pxR Try.prog tab (oc20 hv lv v v2 v3 tk tk' h h1 h2 h9 h10 i m b k a ri rb d L true true false true) 50 20 none 123 (loopAt l20 7) (canon 123 (ov [2, 3, 4, 5, 9, 10, 12, 13] (lv20b c n lv be true i) g) []) h [2, 3, 4, 5, 9, 10, 12, 13] =
  some (Out.normal, [IV.int .i64 c, IV.int .i64 (↑n : Int), IV.ptr 1 0, IV.ptr 2 0, lv, IV.int .i64 (↑i : Int), IV.bool true, IV.int .i64 (↑(i + 1) : Int)], h, [], [
    builtinI tab Builtin.len [53] [lv] h = some (IV.int .i64 (↑m : Int), h), IV.bool (decide ((↑i : Int) < (↑m : Int))) = IV.bool true, IV.bool (decide (be < 0)) = IV.bool false, indexAddrI tab 53 lv (IV.int .i64 (↑i : Int)) = some (IV.ptr 3 (i * 2)), indexAddrI tab 26 (IV.ptr 3 (i * 2)) (IV.int .i64 1) = some (IV.ptr 3 (i * 2 + 1)), H.get h 3 = some (Bx.cells (rcells L) 26, true), ldX (Bx.cells (rcells L) 26, true) false 1 (i * 2 + 1) = some (IV.int .i64 (↑ri : Int)), indexAddrI tab 53 lv (IV.int .i64 be) = some (IV.ptr 3 (b * 2)), indexAddrI tab 26 (IV.ptr 3 (b * 2)) (IV.int .i64 1) = some (IV.ptr 3 (b * 2 + 1)), H.get h 3 = some (Bx.cells (rcells L) 26, true), ldX (Bx.cells (rcells L) 26, true) false 1 (b * 2 + 1) = some (IV.int .i64 (↑rb : Int)), IV.bool (decide ((↑ri : Int) > (↑rb : Int))) = IV.bool true, IV.int .i64 (IntKind.wrap .i64 ((↑i : Int) + 1)) = IV.int .i64 (↑(i + 1) : Int)]) := by kernel_rfl
theorem b20_less : pxR Try.prog tab (oc20 hv lv v v2 v3 tk tk' h h1 h2 h9 h10 i m b k a ri rb d L true true false false) 50 20 none 123 (loopAt l20 7) (canon 123 (ov [2, 3, 4, 5, 9, 10, 12, 13] (lv20b c n lv be true i) g) []) h [2, 3, 4, 5, 9, 10, 12, 13] =
  some (Out.normal, [IV.int .i64 c, IV.int .i64 (↑n : Int), IV.ptr 1 0, IV.ptr 2 0, lv, IV.int .i64 be, IV.bool true, IV.int .i64 (↑(i + 1) : Int)], h, [], [
    builtinI tab Builtin.len [53] [lv] h = some (IV.int .i64 (↑m : Int), h), IV.bool (decide ((↑i : Int) < (↑m : Int))) = IV.bool true, IV.bool (decide (be < 0)) = IV.bool false, indexAddrI tab 53 lv (IV.int .i64 (↑i : Int)) = some (IV.ptr 3 (i * 2)), indexAddrI tab 26 (IV.ptr 3 (i * 2)) (IV.int .i64 1) = some (IV.ptr 3 (i * 2 + 1)), H.get h 3 = some (Bx.cells (rcells L) 26, true), ldX (Bx.cells (rcells L) 26, true) false 1 (i * 2 + 1) = some (IV.int .i64 (↑ri : Int)), indexAddrI tab 53 lv (IV.int .i64 be) = some (IV.ptr 3 (b * 2)), indexAddrI tab 26 (IV.ptr 3 (b * 2)) (IV.int .i64 1) = some (IV.ptr 3 (b * 2 + 1)), H.get h 3 = some (Bx.cells (rcells L) 26, true), ldX (Bx.cells (rcells L) 26, true) false 1 (b * 2 + 1) = some (IV.int .i64 (↑rb : Int)), IV.bool (decide ((↑ri : Int) > (↑rb : Int))) = IV.bool false, IV.int .i64 (IntKind.wrap .i64 ((↑i : Int) + 1)) = IV.int .i64 (↑(i + 1) : Int)]) := by kernel_rfl
theorem mid20b : psR Try.prog tab (oc20 hv lv v v2 v3 tk tk' h h1 h2 h9 h10 i m b k a ri rb d L true true true true) 50 20 none 123 ((l20.drop 8).take 2) (canon 123 (ov [2, 3, 4, 5, 9, 10, 12] ((lv20b c n lv be wh i).take 7) g) []) h [2, 3, 4, 5, 9, 10, 12, 14, 15] =
  some (Out.normal, [IV.int .i64 c, IV.int .i64 (↑n : Int), IV.ptr 1 0, IV.ptr 2 0, lv, IV.int .i64 be, IV.bool wh, IV.nilslice, IV.int .i64 0], h, [], []) := by kernel_rfl
def lv20c (c : Int) (n : Nat) (lv : IV) (be : Int) (wh : Bool) (v : IV) (k : Nat) : List IV := [.int .i64 c, .int .i64 (n : Nat), .ptr 1 0, .ptr 2 0, lv, .int .i64 be, .bool wh, v, .int .i64 (k : Nat)]
theorem c20_e1 : pxR Try.prog tab (oc20 hv lv v v2 v3 tk tk' h h1 h2 h9 h10 i m b k a ri rb d L false true true true) 50 20 none 123 (loopAt l20 10) (canon 123 (ov [2, 3, 4, 5, 9, 10, 12, 14, 15] (lv20c c n lv be wh v2 k) g) []) h [2, 3, 4, 5, 12, 14] =
  some (Out.exit 4, [IV.int .i64 c, IV.int .i64 (↑n : Int), IV.ptr 1 0, IV.ptr 2 0, IV.bool wh, v2], h, [], [
    indexAddrI tab 53 lv (IV.int .i64 be) = some (IV.ptr 3 (b * 2)), indexAddrI tab 26 (IV.ptr 3 (b * 2)) (IV.int .i64 1) = some (IV.ptr 3 (b * 2 + 1)), H.get h 3 = some (Bx.cells (rcells L) 26, true), ldX (Bx.cells (rcells L) 26, true) false 1 (b * 2 + 1) = some (IV.int .i64 (↑rb : Int)), IV.bool (decide ((↑k : Int) < (↑rb : Int))) = IV.bool false]) := by kernel_rfl
theorem c20_e2 : pxR Try.prog tab (oc20 hv lv v v2 v3 tk tk' h h1 h2 h9 h10 i m b k a ri rb d L true false true true) 50 20 none 123 (loopAt l20 10) (canon 123 (ov [2, 3, 4, 5, 9, 10, 12, 14, 15] (lv20c c n lv be wh v2 k) g) []) h [2, 3, 4, 5, 12, 14] =
  some (Out.exit 4, [IV.int .i64 c, IV.int .i64 (↑n : Int), IV.ptr 1 0, IV.ptr 2 0, IV.bool wh, v2], h, [], [
    indexAddrI tab 53 lv (IV.int .i64 be) = some (IV.ptr 3 (b * 2)), indexAddrI tab 26 (IV.ptr 3 (b * 2)) (IV.int .i64 1) = some (IV.ptr 3 (b * 2 + 1)), H.get h 3 = some (Bx.cells (rcells L) 26, true), ldX (Bx.cells (rcells L) 26, true) false 1 (b * 2 + 1) = some (IV.int .i64 (↑rb : Int)), IV.bool (decide ((↑k : Int) < (↑rb : Int))) = IV.bool true, IV.bool (decide ((↑k : Int) < (↑n : Int))) = IV.bool false]) := by kernel_rfl
theorem c20_go : pxR Try.prog tab (oc20 hv lv v v2 v3 tk tk' h h1 h2 h9 h10 i m b k a ri rb d L true true true true) 50 20 none 123 (loopAt l20 10) (canon 123 (ov [2, 3, 4, 5, 9, 10, 12, 14, 15] (lv20c c n lv be wh v2 k) g) []) h [2, 3, 4, 5, 9, 10, 12, 14, 15] =
  some (Out.normal, [IV.int .i64 c, IV.int .i64 (↑n : Int), IV.ptr 1 0, IV.ptr 2 0, lv, IV.int .i64 be, IV.bool wh, v, IV.int .i64 (↑(k + 1) : Int)], H.put h2 2 (Bx.cells (tkL tk') 25), [], [
    indexAddrI tab 53 lv (IV.int .i64 be) = some (IV.ptr 3 (b * 2)), indexAddrI tab 26 (IV.ptr 3 (b * 2)) (IV.int .i64 1) = some (IV.ptr 3 (b * 2 + 1)), H.get h 3 = some (Bx.cells (rcells L) 26, true), ldX (Bx.cells (rcells L) 26, true) false 1 (b * 2 + 1) = some (IV.int .i64 (↑rb : Int)), IV.bool (decide ((↑k : Int) < (↑rb : Int))) = IV.bool true, IV.bool (decide ((↑k : Int) < (↑n : Int))) = IV.bool true, indexAddrI tab 53 lv (IV.int .i64 be) = some (IV.ptr 3 (b * 2)), indexAddrI tab 26 (IV.ptr 3 (b * 2)) (IV.int .i64 0) = some (IV.ptr 3 (b * 2)), H.get h 3 = some (Bx.cells (rcells L) 26, true), ldX (Bx.cells (rcells L) 26, true) false 1 (b * 2) = some (IV.int .i64 (↑a : Int)), IV.int .i64 (IntKind.wrap .i64 ((↑a : Int) + (↑k : Int))) = IV.int .i64 (↑(a + k) : Int), builtinI tab Builtin.append [27, 27] [v2, IV.slice h.next 0 1 (Cap.hard 1)] (H.new h (Bx.cells [IV.int .i64 (↑(a + k) : Int)] 3)) = some (v, h2), indexAddrI tab 53 lv (IV.int .i64 be) = some (IV.ptr 3 (b * 2)), indexAddrI tab 26 (IV.ptr 3 (b * 2)) (IV.int .i64 0) = some (IV.ptr 3 (b * 2)), H.get h2 3 = some (Bx.cells (rcells L) 26, true), ldX (Bx.cells (rcells L) 26, true) false 1 (b * 2) = some (IV.int .i64 (↑a : Int)), IV.int .i64 (IntKind.wrap .i64 ((↑a : Int) + (↑k : Int))) = IV.int .i64 (↑(a + k) : Int), indexAddrI tab 25 (IV.ptr 2 0) (IV.int .i64 (↑(a + k) : Int)) = some (IV.ptr 2 (a + k)), H.get h2 2 = some (Bx.cells (tkL tk) 25, true), stC 1 (tkL tk) (a + k) (IV.bool true) = some (tkL tk'), IV.int .i64 (IntKind.wrap .i64 ((↑k : Int) + 1)) = IV.int .i64 (↑(k + 1) : Int)]) := by kernel_rfl
theorem post20_fit : psR Try.prog tab (oc20 hv lv v v2 v3 tk tk' h h1 h2 h9 h10 i m b k a ri rb d L true true true true) 50 20 none 123 (l20.drop 11) (canon 123 (ov [2, 3, 4, 5, 12, 14] [.int .i64 c, .int .i64 (n : Nat), .ptr 1 0, .ptr 2 0, .bool false, v] g) []) h [8] =
  some (Out.ret, [v], h, [], []) := by kernel_rfl
theorem post20_long : psR Try.prog tab (oc20 hv lv v v2 v3 tk tk' h h1 h2 h9 h10 i m b k a ri rb d L true true true true) 50 20 none 123 (l20.drop 11) (canon 123 (ov [2, 3, 4, 5, 12, 14] [.int .i64 c, .int .i64 (n : Nat), .ptr 1 0, .ptr 2 0, .bool true, v] g) []) h [8] =
  some (Out.ret, [v3], h10, [], [
    H.get h 1 = some (Bx.cells [hv] 24, true), ldX (Bx.cells [hv] 24, true) true 1 0 = some (IV.agg [hv]), H.get h 2 = some (Bx.cells (tkL tk) 25, true), ldX (Bx.cells (tkL tk) 25, true) true 64 0 = some (IV.agg (tkL tk)), builtinI tab Builtin.len [27] [v] h = some (IV.int .i64 (↑m : Int), h), IV.int .i64 (IntKind.wrap .i64 ((↑n : Int) - (↑m : Int))) = IV.int .i64 (↑d : Int), ClEq Try.prog (IV.func (IFn.func 20) [] []) [IV.agg [hv], IV.agg (tkL tk), IV.int .i64 c, IV.int .i64 (↑d : Int)] h v2 h9, builtinI tab Builtin.append [27, 27] [v, v2] h9 = some (v3, h10)]) := by kernel_rfl
end
end Go.Proofs.Ytjhgomacanffkaa
namespace Go.Proofs.Ytjhgomacanffkaa
open Go Sx Go.RowKit

/-! ### The best one, by its place -/
def bIx (may : Nat × Nat → Bool) (bet : Nat × Nat → Nat × Nat → Bool) (L : List (Nat × Nat)) : Nat → Option Nat
  | 0 => none
  | i + 1 => if may (L.getD i (0, 0)) = true then (match bIx may bet L i with
    | none => some i
    | some j => if bet (L.getD i (0, 0)) (L.getD j (0, 0)) = true then some i else some j) else bIx may bet L i
theorem bIx_fold (may : Nat × Nat → Bool) (bet : Nat × Nat → Nat × Nat → Bool) (L : List (Nat × Nat)) : ∀ i, i ≤ L.length → (L.take i).foldl (bestP may bet) none = (bIx may bet L i).map (fun j => L.getD j (0, 0)) ∧ ∀ j, bIx may bet L i = some j → j < i
  | 0, _ => ⟨rfl, fun j h => by cases h⟩
  | i + 1, h => by
    obtain ⟨h1, h2⟩ := bIx_fold may bet L i (by omega)
    have hg : L[i]? = some (L.getD i (0, 0)) := by simp [List.getD_eq_getElem?_getD, show i < L.length by omega]
    rw [List.take_add_one, hg, Option.toList_some, List.foldl_append, h1]
    simp only [List.foldl_cons, List.foldl_nil, bIx, bestP]
    by_cases hm : may (L.getD i (0, 0)) = true
    · rw [if_pos hm, if_pos hm]
      cases hb : bIx may bet L i with
      | none => exact ⟨rfl, fun j h => by cases h; omega⟩
      | some j =>
        have := h2 j hb
        simp only [Option.map_some]
        by_cases hbt : bet (L.getD i (0, 0)) (L.getD j (0, 0)) = true
        · rw [if_pos hbt, if_pos hbt]; exact ⟨rfl, fun k h => by cases h; omega⟩
        · rw [if_neg hbt, if_neg hbt]; exact ⟨rfl, fun k h => by cases h; omega⟩
    · rw [if_neg hm, if_neg hm]
      exact ⟨rfl, fun j h => by have := h2 j h; omega⟩
def beI : Option Nat → Int
  | none => -1
  | some j => (j : Int)
theorem rcells_at : ∀ {L : List (Nat × Nat)} {i : Nat} {r : Nat × Nat}, L[i]? = some r → (rcells L)[i * 2]? = some (.int .i64 (r.1 : Nat)) ∧ (rcells L)[i * 2 + 1]? = some (.int .i64 (r.2 : Nat))
  | [], i, r, h => by simp at h
  | a :: L, 0, r, h => by simp at h; subst h; exact ⟨rfl, rfl⟩
  | a :: L, i + 1, r, h => by
    have := rcells_at (L := L) (i := i) (r := r) (by simpa using h)
    simp only [rcells, List.flatMap_cons, List.cons_append, List.nil_append] at this ⊢
    rw [show (i + 1) * 2 = i * 2 + 1 + 1 by omega]
    exact this

theorem choose2_list {x : Bx} {off nn : Nat} {cp : Cap} {rs : List (Int × Int)} (hx : HallX x off nn cp rs) {c : Int} {n : Nat} {tk : Nat → Bool} {cs : List Nat}
    (hs : Sp Try.prog 20 [.agg [.slice 0 off nn cp], .agg (tkL tk), .int .i64 c, .int .i64 (n : Nat)] (boxH [x]) fun v' h' => ∃ s, v' = slV s n ∧ (n = 0 ∨ (h'.get s = some (.cells (nints cs) 3, true) ∧ [x].length ≤ s)) ∧
      ∀ i y, (boxH [x]).get i = some y → h'.get i = some y) {h : H} {b : Nat} {wr : Bool} (hb : h.get b = some (x, wr)) :
    ClEq Try.prog (.func (.func 20) [] []) [.agg [.slice b off nn cp], .agg (tkL tk), .int .i64 c, .int .i64 (n : Nat)] h (slV h.next n) (newL h n (nints cs) 3) := by
  refine Cl.of_sp (first := []) (cap := []) enters20 ?_
  have := Sp.list (bs := [x]) (by simp [hx.fl]) (by simp [underLB, IV.underB, under_tk]) (nints_flat _) hs (H0 := h) (fun _ => b) (fun i o ho => by
    cases i with
    | zero => simp at ho; subst ho; exact ⟨wr, hb⟩
    | succ i => simp at ho) (fun i j hi hj _ => by simp at hi hj; omega)
  simp only [renL, IV.ren, ren_tk] at this
  exact this

theorem choose2_sp {x : Bx} {off nn : Nat} {cp : Cap} {rs : List (Int × Int)} (hx : HallX x off nn cp rs) (c : Int) : ∀ (f n : Nat) (tk : Nat → Bool), 1 ≤ n → n ≤ f → n ≤ (free rs c tk).length →
    Sp Try.prog 20 [.agg [.slice 0 off nn cp], .agg (tkL tk), .int .i64 c, .int .i64 (n : Nat)] (boxH [x]) fun v' h' => ∃ s, v' = slV s n ∧ (n = 0 ∨ (h'.get s = some (.cells (nints (searchP rs c f tk n)) 3, true) ∧ [x].length ≤ s)) ∧
      ∀ i y, (boxH [x]).get i = some y → h'.get i = some y
  | 0, n, tk, h1, hf, _ => by omega
  | f + 1, n, tk, h1, hf, hn => by
    have h8 : rs.length ≤ 8 := by have := hx.len; omega
    have hLl := runs_length h8 c tk
    have hfl := runs_flat rs c tk
    have hLp : 0 < (runs rs c tk).length := by
      rcases Nat.eq_zero_or_pos (runs rs c tk).length with e | e
      · rw [List.eq_nil_of_length_eq_zero e] at hfl
        rw [← hfl] at hn
        simp [runF] at hn
        omega
      · exact e
    have hrn : ∀ r ∈ runs rs c tk, r.1 + r.2 ≤ 64 := fun r hr => run_lt h8 hr
    have hpos := runs_pos rs c tk
    have hf64 := free_le h8 c tk
    have hmk : ∀ r ∈ runs rs c tk, (free rs c (mark tk (takeP r.1 r.2))).length + r.2 = (free rs c tk).length := fun r hr => free_mark_run hr
    have hrec : searchP rs c (f + 1) tk n = (match fitP (runs rs c tk) n with
      | some r => takeP r.1 n
      | none => match longP (runs rs c tk) with
        | none => []
        | some r => takeP r.1 r.2 ++ searchP rs c f (mark tk (takeP r.1 r.2)) (n - r.2)) := rfl
    let hv : IV := .slice 0 off nn cp
    have q0 : ClEq Try.prog (.func (.func 34) [] []) [.agg [hv], .int .i64 c, .agg (tkL tk)] (((boxH [x]).new (.cells [hv] 24)).new (.cells (tkL tk) 25)) (slV 3 (runs rs c tk).length) (hQ x hv tk (runs rs c tk)) := by
      have := runs2_cl hx c tk (h := ((boxH [x]).new (.cells [hv] 24)).new (.cells (tkL tk) 25)) (b := 0) (wr := false) (by kernel_rfl)
      rw [newL_pos hLp] at this
      exact this
    generalize hL : runs rs c tk = L at *
    have hdQ : ∀ tk, ∀ i y, (hQ x hv tk L).get i = some y → i < (hQ x hv tk L).next := fun tk => dom_new (dom_new (dom_new dom_boxH))
    have kQ0 : ∀ tk, (hQ x hv tk L).get 0 = some (x, false) := fun tk => by kernel_rfl
    have kQ1 : ∀ tk, (hQ x hv tk L).get 1 = some (.cells [hv] 24, true) := fun tk => by kernel_rfl
    have kQ2 : ∀ tk, (hQ x hv tk L).get 2 = some (.cells (tkL tk) 25, true) := fun tk => by kernel_rfl
    have kQ3 : ∀ tk, (hQ x hv tk L).get 3 = some (.cells (rcells L) 26, true) := fun tk => by kernel_rfl
    have kQp : ∀ tk tk', (hQ x hv tk L).put 2 (.cells (tkL tk') 25) = hQ x hv tk' L := fun tk tk' => by kernel_rfl
    have hix : ∀ i, i < L.length → indexAddrI tab 53 (slV 3 L.length) (.int .i64 (i : Nat)) = some (.ptr 3 (i * 2)) := fun i hi => by
      rw [slV_pos hLp, ix_sl t53d t26s hi]; simp
    have hi1 : ∀ o, indexAddrI tab 26 (.ptr 3 o) (.int .i64 1) = some (.ptr 3 (o + 1)) := fun o => by
      have := ix_arr (b := 3) (o := o) (k := .i64) (i := 1) t26d t3s (by decide)
      simpa using this
    have hi0 : ∀ o, indexAddrI tab 26 (.ptr 3 o) (.int .i64 0) = some (.ptr 3 o) := fun o => by
      have := ix_arr (b := 3) (o := o) (k := .i64) (i := 0) t26d t3s (by decide)
      simpa using this
    have hr1 : ∀ i r, L[i]? = some r → ldX (.cells (rcells L) 26, true) false 1 (i * 2 + 1) = some (.int .i64 (r.2 : Nat)) := fun i r h => (rcells_at h).2
    have hr0 : ∀ i r, L[i]? = some r → ldX (.cells (rcells L) 26, true) false 1 (i * 2) = some (.int .i64 (r.1 : Nat)) := fun i r h => (rcells_at h).1
    have hgd : ∀ i, i < L.length → L[i]? = some (L.getD i (0, 0)) := fun i h => by simp [List.getD_eq_getElem?_getD, h]
    refine Sp.of_ev tab_ok Try.func20 (c := bodyC Try.prog 20) (by kernel_rfl) (Nat.le_of_ble_eq_true rfl) ?_
    show Ev Try.prog none 123 (bodyC Try.prog 20) (BodyQ tab [.tmp 8] _) _ _
    refine Ev.of_flat l20_eq ?_
    refine EvS.px tab_ok mixed (FrIs.start 123 _) (by simp) (pre20 x hv (slV 3 L.length) .nilslice .nilslice .nilslice tk tk (boxH []) (boxH []) (boxH []) (boxH []) c n 0 0 0 0 0 0 0 0 L) ⟨by kernel_rfl, rfl, by kernel_rfl, tk_ld tk, q0, trivial⟩ fun fr g hf' => ?_
    -- the seats of the best one, and what is left
    have tail : ∀ (wh : Bool) (b : Nat) (r : Nat × Nat) (fr : Fr) (g : Nat → IV), L[b]? = some r → ((wh = false ∧ n ≤ r.2 ∧ searchP rs c (f + 1) tk n = takeP r.1 n) ∨ (wh = true ∧ r.2 < n ∧ searchP rs c (f + 1) tk n = takeP r.1 r.2 ++ searchP rs c f (mark tk (takeP r.1 r.2)) (n - r.2))) →
        FrIs 123 fr (ov [2, 3, 4, 5, 9, 10, 12] ((lv20b c n (slV 3 L.length) (b : Nat) wh 0).take 7) g) [] → EvS Try.prog none 123 (l20.drop 8) (BodyQ tab [.tmp 8] fun v' h' => ∃ s, v' = slV s n ∧ (n = 0 ∨ (h'.get s = some (.cells (nints (searchP rs c (f + 1) tk n)) 3, true) ∧ [x].length ≤ s)) ∧
      ∀ i y, (boxH [x]).get i = some y → h'.get i = some y) fr (hQ x hv tk L) := by
      intro wh b r fr g hb hcase hf
      have hbl := (List.getElem?_eq_some_iff.1 hb).1
      have hm : r ∈ L := List.mem_of_getElem? hb
      have hr64 := hrn r hm
      have hrp := hpos r hm
      rw [l20_eq3]
      refine EvS.px tab_ok mixed hf (by simp) (mid20b hv (slV 3 L.length) .nilslice .nilslice .nilslice tk tk _ (boxH []) (boxH []) (boxH []) (boxH []) c (b : Nat) n 0 0 0 0 0 0 0 0 L wh g) trivial fun fr2 g2 hf2 => ?_
      refine EvS.loop (fun t fr h => ∃ k s, k ≤ min n r.2 ∧ t = min n r.2 - k ∧ JL (hQ x hv (mark tk (takeP r.1 k)) L) (nints (takeP r.1 k)) 3 k h s ∧ ∃ g, FrIs 123 fr (ov [2, 3, 4, 5, 9, 10, 12, 14, 15] (lv20c c n (slV 3 L.length) (b : Nat) wh (slV s k) k) g) []) (min n r.2)
        ⟨0, 0, by omega, by omega, by rw [show takeP r.1 0 = [] from rfl, mark_nil]; exact JL.start (hdQ _) _ _ _, g2, hf2⟩ ?_
      rintro t fr h ⟨k, s, hk, rfl, j, g, hf⟩
      have jk3 := j.keep _ _ (kQ3 _)
      by_cases hlt : k < min n r.2
      · -- one more
        obtain ⟨h2, ha, j2⟩ := JL.app (news := [.int .i64 ((r.1 + k : Nat) : Int)]) (hdQ _) j t27d t3i (by decide) (by decide) (by omega) (by rw [nints_length, takeP_length, Nat.mul_one]) rfl rfl
        have e3 : indexAddrI tab 25 (.ptr 2 0) (.int .i64 ((r.1 + k : Nat) : Int)) = some (.ptr 2 (r.1 + k)) := by
          rw [ix_arr t25d t4s (by omega)]; simp
        have e4 : stC 1 (tkL (mark tk (takeP r.1 k))) (r.1 + k) (.bool true) = some (tkL (mark tk (takeP r.1 (k + 1)))) := tk_set (by omega) fun i => by rw [takeP_succ, mark_snoc]
        refine Ev.px tab_ok mixed hf (c20_go hv (slV 3 L.length) (slV (h.next + 1) (k + 1)) (slV s k) .nilslice (mark tk (takeP r.1 k)) (mark tk (takeP r.1 (k + 1))) h (boxH []) h2 (boxH []) (boxH []) c (b : Nat) n 0 0 b k r.1 0 r.2 0 L wh g)
          ⟨hix b hbl, hi1 _, jk3, hr1 b r hb, cT (by omega), cT (by omega), hix b hbl, hi0 _, jk3, hr0 b r hb, cW (by omega) (by omega) (by omega), ha, hix b hbl, hi0 _, j2.keep _ _ (kQ3 _), hr0 b r hb, cW (by omega) (by omega) (by omega), e3, j2.keep _ _ (kQ2 _), e4, cW (by omega) (by omega) (by omega), trivial⟩ fun fr3 g3 hf3 => ?_
        refine ⟨min n r.2 - (k + 1), by omega, k + 1, h.next + 1, by omega, rfl, ?_, g3, hf3⟩
        have j3 := JL.putOld j2 (o' := .cells (tkL (mark tk (takeP r.1 (k + 1)))) 25) (kQ2 _) (by show 2 < 4; decide)
        rw [kQp] at j3
        have : nints (takeP r.1 (k + 1)) = nints (takeP r.1 k) ++ [.int .i64 ((r.1 + k : Nat) : Int)] := by rw [takeP_succ]; simp [nints]
        rw [this]; exact j3
      obtain rfl : k = min n r.2 := by omega
      have gk0 := keep0 (j.keep _ _ (kQ0 _))
      have hle4 : 4 ≤ h.next := j.le
      rcases hcase with ⟨rfl, hc1, hc2⟩ | ⟨rfl, hc1, hc2⟩
      · -- it is enough
        have hmin : min n r.2 = n := by omega
        rw [hmin] at j hf
        have fin : ∀ (fr3 : Fr) (g3 : Nat → IV), FrIs 123 fr3 (ov [2, 3, 4, 5, 12, 14] [.int .i64 c, .int .i64 (n : Nat), .ptr 1 0, .ptr 2 0, .bool false, slV s n] g3) [] → EvS Try.prog none 123 (l20.drop 11) (BodyQ tab [.tmp 8] fun v' h' => ∃ s, v' = slV s n ∧ (n = 0 ∨ (h'.get s = some (.cells (nints (searchP rs c (f + 1) tk n)) 3, true) ∧ [x].length ≤ s)) ∧
            ∀ i y, (boxH [x]).get i = some y → h'.get i = some y) fr3 h := fun fr3 g3 hf3 => by
          refine EvS.pxEnd tab_ok mixed hf3 (List.cons_ne_nil _ _) (post20_fit hv (slV 3 L.length) (slV s n) .nilslice .nilslice tk tk h (boxH []) (boxH []) (boxH []) (boxH []) c n 0 0 0 0 0 0 0 0 L g3) trivial fun fr4 g4 hf4 => ?_
          rw [hc2]
          exact ⟨.inr rfl, h, [slV s n], by rw [hf4.1]; rfl, by simp only [resI, show fr4.tm.tmp 8 = slV s n from hf4.2 8 (by decide), Option.map_some], s, rfl, j.gs.imp id fun ⟨a, _, c⟩ => ⟨c, Nat.le_trans (by show 1 ≤ 4; decide) a⟩, gk0⟩
        by_cases hnr : n < r.2
        · refine Ev.px tab_ok mixed hf (c20_e2 hv (slV 3 L.length) .nilslice (slV s n) .nilslice tk tk h (boxH []) (boxH []) (boxH []) (boxH []) c (b : Nat) n 0 0 b n r.1 0 r.2 0 L false g) ⟨hix b hbl, hi1 _, jk3, hr1 b r hb, cT (by omega), cF (by omega), trivial⟩ fun fr3 g3 hf3 => ?_
          exact RoundEnds.out (fin fr3 g3 hf3)
        · refine Ev.px tab_ok mixed hf (c20_e1 hv (slV 3 L.length) .nilslice (slV s n) .nilslice tk tk h (boxH []) (boxH []) (boxH []) (boxH []) c (b : Nat) n 0 0 b n r.1 0 r.2 0 L false g) ⟨hix b hbl, hi1 _, jk3, hr1 b r hb, cF (by omega), trivial⟩ fun fr3 g3 hf3 => ?_
          exact RoundEnds.out (fin fr3 g3 hf3)
      · -- the rest
        have hmin : min n r.2 = r.2 := by omega
        rw [hmin] at j hf
        refine Ev.px tab_ok mixed hf (c20_e1 hv (slV 3 L.length) .nilslice (slV s r.2) .nilslice tk tk h (boxH []) (boxH []) (boxH []) (boxH []) c (b : Nat) n 0 0 b r.2 r.1 0 r.2 0 L true g) ⟨hix b hbl, hi1 _, jk3, hr1 b r hb, cF (by omega), trivial⟩ fun fr3 g3 hf3 => ?_
        refine RoundEnds.out ?_
        have hl := hmk r hm
        have hn1 : 1 ≤ n - r.2 := by omega
        have hn2 : n - r.2 ≤ f := by omega
        have hn3 : n - r.2 ≤ (free rs c (mark tk (takeP r.1 r.2))).length := by omega
        have ih := choose2_sp hx c f (n - r.2) (mark tk (takeP r.1 r.2)) hn1 hn2 hn3
        have hso2 := (search_ok rs c f (n - r.2) (mark tk (takeP r.1 r.2)) hn2 hn3).1
        generalize searchP rs c f (mark tk (takeP r.1 r.2)) (n - r.2) = l2 at *
        have g70 := j.keep _ _ (kQ0 _)
        have p1 := choose2_list hx ih g70
        rw [newL_pos hn1, slV_pos hn1] at p1
        rcases j.gs with hz | ⟨hs1, hs2, hs3⟩
        · omega
        have hs1 : 4 ≤ s := hs1
        have p2 : (h.new (.cells (nints l2) 3)).get s = some (.cells (nints (takeP r.1 r.2)) 3, true) := by rw [H.get_new, if_neg (by omega)]; exact hs3
        have p3 : (h.new (.cells (nints l2) 3)).get h.next = some (.cells (nints l2) 3, true) := by rw [H.get_new, if_pos rfl]
        have hone : (nints l2).all IV.one = true := by simp [nints, IV.one]
        have p4 := app_soft (t := 27) (c := .soft 0) t27d t3i (by decide) (len := r.2) (n := n - r.2) p2 (by rw [nints_length, takeP_length, Nat.mul_one]) (by decide) (by omega) p3 (by rw [nints_length, hso2, Nat.mul_one]) hone (by omega)
        rw [show r.2 + (n - r.2) = n by omega] at p4
        have q5 := len_slV t27d s r.2 h
        rw [slV_pos hrp] at hf3 q5
        refine EvS.pxEnd tab_ok mixed hf3 (List.cons_ne_nil _ _) (post20_long hv (slV 3 L.length) (.slice s 0 r.2 (.soft 0)) (.slice h.next 0 (n - r.2) (.soft 0)) (.slice (h.next + 1) 0 n (.soft 0)) (mark tk (takeP r.1 r.2)) tk h (boxH []) (boxH []) (h.new (.cells (nints l2) 3)) _ c n 0 r.2 0 0 0 0 0 (n - r.2) L g3)
          ⟨j.keep _ _ (kQ1 _), rfl, j.keep _ _ (kQ2 _), tk_ld _, q5, cW (by omega) (by omega) (by omega), p1, p4, trivial⟩ fun fr4 g4 hf4 => ?_
        rw [hc2]
        refine ⟨.inr rfl, _, [.slice (h.next + 1) 0 n (.soft 0)], by rw [hf4.1]; rfl, by simp only [resI, show fr4.tm.tmp 8 = .slice (h.next + 1) 0 n (.soft 0) from hf4.2 8 (by decide), Option.map_some], h.next + 1, (slV_pos (by omega)).symm, .inr ⟨?_, by show 1 ≤ h.next + 1; omega⟩, keep0 ?_⟩
        · have : nints (takeP r.1 r.2 ++ l2) = nints (takeP r.1 r.2) ++ nints l2 := by simp [nints]
          rw [this, H.get_new, H.next_kill, H.next_new, if_pos rfl]
        · rw [H.get_new, H.next_kill, H.next_new, if_neg (by omega), H.get_kill, if_neg (by omega), H.get_new, if_neg (by omega)]; exact g70
    -- the first that fits
    have hfold := bIx_fold (fun r => decide (n ≤ r.2)) (fun x y => decide (x.2 < y.2)) L
    have hstep : ∀ i, bIx (fun r => decide (n ≤ r.2)) (fun x y => decide (x.2 < y.2)) L (i + 1) = if n ≤ (L.getD i (0, 0)).2 then (match bIx (fun r => decide (n ≤ r.2)) (fun x y => decide (x.2 < y.2)) L i with
      | none => some i
      | some j => if (L.getD i (0, 0)).2 < (L.getD j (0, 0)).2 then some i else some j) else bIx (fun r => decide (n ≤ r.2)) (fun x y => decide (x.2 < y.2)) L i := fun i => by simp only [bIx, decide_eq_true_eq]
    have hfitE : fitP L n = (bIx (fun r => decide (n ≤ r.2)) (fun x y => decide (x.2 < y.2)) L L.length).map (fun j => L.getD j (0, 0)) := by
      have := (hfold L.length (Nat.le_refl _)).1
      rw [List.take_length] at this
      exact this
    have hb0 : bIx (fun r => decide (n ≤ r.2)) (fun x y => decide (x.2 < y.2)) L 0 = none := rfl
    generalize bIx (fun r => decide (n ≤ r.2)) (fun x y => decide (x.2 < y.2)) L = B at *
    refine EvS.loop (fun t fr h => ∃ i, i ≤ L.length ∧ t = L.length - i ∧ h = hQ x hv tk L ∧ ∃ g, FrIs 123 fr (ov [2, 3, 4, 5, 9, 10, 11] (lv20 c n (slV 3 L.length) (beI (B i)) i) g) []) L.length
      ⟨0, by omega, by omega, rfl, g, by rw [hb0]; exact hf'⟩ ?_
    rintro t fr h ⟨i, hi, rfl, rfl, g, hf⟩
    by_cases hlt : i < L.length
    · have hLi := hgd i hlt
      have hBl := (hfold i hi).2
      have hS := hstep i
      have hm := List.mem_of_getElem? hLi
      have hr64 := hrn _ hm
      generalize L.getD i (0, 0) = ri at *
      have fin : ∀ (B' : Option Nat), B (i + 1) = B' → ∀ (fr2 : Fr) (g2 : Nat → IV), FrIs 123 fr2 (ov [2, 3, 4, 5, 9, 10, 11] (lv20 c n (slV 3 L.length) (beI B') (i + 1)) g2) [] →
          ∃ m', m' < L.length - i ∧ ∃ i, i ≤ L.length ∧ m' = L.length - i ∧ hQ x hv tk L = hQ x hv tk L ∧ ∃ g, FrIs 123 fr2 (ov [2, 3, 4, 5, 9, 10, 11] (lv20 c n (slV 3 L.length) (beI (B i)) i) g) [] := fun B' e fr2 g2 hf2 =>
        ⟨L.length - (i + 1), by omega, i + 1, by omega, rfl, rfl, g2, by rw [e]; exact hf2⟩
      by_cases hge : n ≤ ri.2
      · rw [if_pos hge] at hS
        cases hB : B i with
        | none =>
          rw [hB] at hS hf
          refine Ev.px tab_ok mixed hf (a20_first hv (slV 3 L.length) .nilslice .nilslice .nilslice tk tk _ (boxH []) (boxH []) (boxH []) (boxH []) c (-1) n i L.length 0 0 0 ri.2 0 0 L g) ⟨len_slV t53d _ _ _, cT (by omega), hix i hlt, hi1 _, kQ3 _, hr1 i ri hLi, cT (by omega), cT (by omega), cW (by omega) (by omega) (by omega), trivial⟩ fun fr2 g2 hf2 => ?_
          exact fin _ hS fr2 g2 hf2
        | some j =>
          have hji := hBl j hB
          have hLj := hgd j (by omega)
          rw [hB] at hS hf
          simp only at hS
          generalize L.getD j (0, 0) = rj at *
          by_cases hls : ri.2 < rj.2
          · rw [if_pos hls] at hS
            refine Ev.px tab_ok mixed hf (a20_less hv (slV 3 L.length) .nilslice .nilslice .nilslice tk tk _ (boxH []) (boxH []) (boxH []) (boxH []) c (j : Nat) n i L.length j 0 0 ri.2 rj.2 0 L g) ⟨len_slV t53d _ _ _, cT (by omega), hix i hlt, hi1 _, kQ3 _, hr1 i ri hLi, cT (by omega), cF (by omega), hix i hlt, hi1 _, kQ3 _, hr1 i ri hLi, hix j (by omega), hi1 _, kQ3 _, hr1 j rj hLj, cT (by omega), cW (by omega) (by omega) (by omega), trivial⟩ fun fr2 g2 hf2 => ?_
            exact fin _ hS fr2 g2 hf2
          · rw [if_neg hls] at hS
            refine Ev.px tab_ok mixed hf (a20_more hv (slV 3 L.length) .nilslice .nilslice .nilslice tk tk _ (boxH []) (boxH []) (boxH []) (boxH []) c (j : Nat) n i L.length j 0 0 ri.2 rj.2 0 L g) ⟨len_slV t53d _ _ _, cT (by omega), hix i hlt, hi1 _, kQ3 _, hr1 i ri hLi, cT (by omega), cF (by omega), hix i hlt, hi1 _, kQ3 _, hr1 i ri hLi, hix j (by omega), hi1 _, kQ3 _, hr1 j rj hLj, cF (by omega), cW (by omega) (by omega) (by omega), trivial⟩ fun fr2 g2 hf2 => ?_
            exact fin _ hS fr2 g2 hf2
      · rw [if_neg hge] at hS
        refine Ev.px tab_ok mixed hf (a20_lt hv (slV 3 L.length) .nilslice .nilslice .nilslice tk tk _ (boxH []) (boxH []) (boxH []) (boxH []) c (beI (B i)) n i L.length 0 0 0 ri.2 0 0 L g) ⟨len_slV t53d _ _ _, cT (by omega), hix i hlt, hi1 _, kQ3 _, hr1 i ri hLi, cF (by omega), cW (by omega) (by omega) (by omega), trivial⟩ fun fr2 g2 hf2 => ?_
        exact fin _ hS fr2 g2 hf2
    obtain rfl : i = L.length := by omega
    refine Ev.px tab_ok mixed hf (a20_end hv (slV 3 L.length) .nilslice .nilslice .nilslice tk tk _ (boxH []) (boxH []) (boxH []) (boxH []) c (beI (B L.length)) n L.length L.length 0 0 0 0 0 0 L g) ⟨len_slV t53d _ _ _, cF (by omega), trivial⟩ fun fr2 g2 hf2 => ?_
    refine RoundEnds.out ?_
    rw [l20_eq2]
    cases hB : B L.length with
    | some b =>
      have hbl := (hfold _ (Nat.le_refl _)).2 b hB
      have hLb := hgd b hbl
      rw [hB] at hf2 hfitE
      simp only [Option.map_some] at hfitE
      refine EvS.px tab_ok mixed hf2 (by simp) (mid20 hv (slV 3 L.length) .nilslice .nilslice .nilslice tk tk _ (boxH []) (boxH []) (boxH []) (boxH []) c (b : Nat) n 0 0 0 0 0 0 0 0 L false g2) ⟨cF (by omega), trivial⟩ fun fr3 g3 hf3 => ?_
      refine EvS.loop (fun t fr h => t = 0 ∧ h = hQ x hv tk L ∧ ∃ g, FrIs 123 fr (ov [2, 3, 4, 5, 9, 10, 12, 13] (lv20b c n (slV 3 L.length) (b : Nat) false 0) g) []) 0 ⟨rfl, rfl, g3, hf3⟩ ?_
      rintro t fr h ⟨rfl, rfl, g, hf4⟩
      refine Ev.px tab_ok mixed hf4 (b20_no hv (slV 3 L.length) .nilslice .nilslice .nilslice tk tk _ (boxH []) (boxH []) (boxH []) (boxH []) c (b : Nat) n 0 L.length 0 0 0 0 0 0 L g) ⟨len_slV t53d _ _ _, cT (by omega), trivial⟩ fun fr5 g5 hf5 => ?_
      refine RoundEnds.out ?_
      have hfs := (fit_some hfitE).2
      exact tail false b _ fr5 g5 hLb (.inl ⟨rfl, hfs, by rw [hrec, hfitE]⟩) hf5
    | none =>
      rw [hB] at hf2 hfitE
      simp only [Option.map_none] at hfitE
      have hltn := fit_none hfitE
      refine EvS.px tab_ok mixed hf2 (by simp) (mid20 hv (slV 3 L.length) .nilslice .nilslice .nilslice tk tk _ (boxH []) (boxH []) (boxH []) (boxH []) c (-1) n 0 0 0 0 0 0 0 0 L true g2) ⟨cT (by omega), trivial⟩ fun fr3 g3 hf3 => ?_
      have hfold2 := bIx_fold (fun _ => true) (fun x y => decide (y.2 < x.2)) L
      have hstep2 : ∀ i, bIx (fun _ => true) (fun x y => decide (y.2 < x.2)) L (i + 1) = (match bIx (fun _ => true) (fun x y => decide (y.2 < x.2)) L i with
        | none => some i
        | some j => if (L.getD j (0, 0)).2 < (L.getD i (0, 0)).2 then some i else some j) := fun i => by simp only [bIx, decide_eq_true_eq, if_true]
      have hlongE : longP L = (bIx (fun _ => true) (fun x y => decide (y.2 < x.2)) L L.length).map (fun j => L.getD j (0, 0)) := by
        have := (hfold2 L.length (Nat.le_refl _)).1
        rw [List.take_length] at this
        exact this
      have hb02 : bIx (fun _ => true) (fun x y => decide (y.2 < x.2)) L 0 = none := rfl
      generalize bIx (fun _ => true) (fun x y => decide (y.2 < x.2)) L = B2 at *
      refine EvS.loop (fun t fr h => ∃ i, i ≤ L.length ∧ t = L.length - i ∧ h = hQ x hv tk L ∧ ∃ g, FrIs 123 fr (ov [2, 3, 4, 5, 9, 10, 12, 13] (lv20b c n (slV 3 L.length) (beI (B2 i)) true i) g) []) L.length
        ⟨0, by omega, by omega, rfl, g3, by rw [hb02]; exact hf3⟩ ?_
      rintro t fr h ⟨i, hi, rfl, rfl, g, hf4⟩
      by_cases hlt : i < L.length
      · have hLi := hgd i hlt
        have hBl := (hfold2 i hi).2
        have hS := hstep2 i
        have hm := List.mem_of_getElem? hLi
        have hr64 := hrn _ hm
        generalize L.getD i (0, 0) = ri at *
        have fin : ∀ (B' : Option Nat), B2 (i + 1) = B' → ∀ (fr2 : Fr) (g2 : Nat → IV), FrIs 123 fr2 (ov [2, 3, 4, 5, 9, 10, 12, 13] (lv20b c n (slV 3 L.length) (beI B') true (i + 1)) g2) [] →
            ∃ m', m' < L.length - i ∧ ∃ i, i ≤ L.length ∧ m' = L.length - i ∧ hQ x hv tk L = hQ x hv tk L ∧ ∃ g, FrIs 123 fr2 (ov [2, 3, 4, 5, 9, 10, 12, 13] (lv20b c n (slV 3 L.length) (beI (B2 i)) true i) g) [] := fun B' e fr2 g2 hf2 =>
          ⟨L.length - (i + 1), by omega, i + 1, by omega, rfl, rfl, g2, by rw [e]; exact hf2⟩
        cases hB2 : B2 i with
        | none =>
          rw [hB2] at hS hf4
          refine Ev.px tab_ok mixed hf4 (b20_first hv (slV 3 L.length) .nilslice .nilslice .nilslice tk tk _ (boxH []) (boxH []) (boxH []) (boxH []) c (-1) n i L.length 0 0 0 ri.2 0 0 L g) ⟨len_slV t53d _ _ _, cT (by omega), cT (by omega), cW (by omega) (by omega) (by omega), trivial⟩ fun fr5 g5 hf5 => ?_
          exact fin _ hS fr5 g5 hf5
        | some j =>
          have hji := hBl j hB2
          have hLj := hgd j (by omega)
          rw [hB2] at hS hf4
          simp only at hS
          generalize L.getD j (0, 0) = rj at *
          by_cases hls : rj.2 < ri.2
          · rw [if_pos hls] at hS
            refine Ev.px tab_ok mixed hf4 (b20_more hv (slV 3 L.length) .nilslice .nilslice .nilslice tk tk _ (boxH []) (boxH []) (boxH []) (boxH []) c (j : Nat) n i L.length j 0 0 ri.2 rj.2 0 L g) ⟨len_slV t53d _ _ _, cT (by omega), cF (by omega), hix i hlt, hi1 _, kQ3 _, hr1 i ri hLi, hix j (by omega), hi1 _, kQ3 _, hr1 j rj hLj, cT (by omega), cW (by omega) (by omega) (by omega), trivial⟩ fun fr5 g5 hf5 => ?_
            exact fin _ hS fr5 g5 hf5
          · rw [if_neg hls] at hS
            refine Ev.px tab_ok mixed hf4 (b20_less hv (slV 3 L.length) .nilslice .nilslice .nilslice tk tk _ (boxH []) (boxH []) (boxH []) (boxH []) c (j : Nat) n i L.length j 0 0 ri.2 rj.2 0 L g) ⟨len_slV t53d _ _ _, cT (by omega), cF (by omega), hix i hlt, hi1 _, kQ3 _, hr1 i ri hLi, hix j (by omega), hi1 _, kQ3 _, hr1 j rj hLj, cF (by omega), cW (by omega) (by omega) (by omega), trivial⟩ fun fr5 g5 hf5 => ?_
            exact fin _ hS fr5 g5 hf5
      obtain rfl : i = L.length := by omega
      refine Ev.px tab_ok mixed hf4 (b20_end hv (slV 3 L.length) .nilslice .nilslice .nilslice tk tk _ (boxH []) (boxH []) (boxH []) (boxH []) c (beI (B2 L.length)) n L.length L.length 0 0 0 0 0 0 L true g) ⟨len_slV t53d _ _ _, cF (by omega), trivial⟩ fun fr5 g5 hf5 => ?_
      refine RoundEnds.out ?_
      cases hB2 : B2 L.length with
      | none =>
        rw [hB2] at hlongE
        rw [long_none hlongE] at hLp
        exact absurd hLp (by simp)
      | some b =>
        have hbl := (hfold2 _ (Nat.le_refl _)).2 b hB2
        have hLb := hgd b hbl
        rw [hB2] at hf5 hlongE
        simp only [Option.map_some] at hlongE
        exact tail true b _ fr5 g5 hLb (.inr ⟨rfl, hltn _ (List.mem_of_getElem? hLb), by rw [hrec, hfitE]; simp only [hlongE]⟩) hf5
theorem choose2_cl {x : Bx} {off nn : Nat} {cp : Cap} {rs : List (Int × Int)} (hx : HallX x off nn cp rs) (c : Int) {n : Nat} {tk : Nat → Bool} (h1 : 1 ≤ n) (hn : n ≤ (free rs c tk).length) {h : H} {b : Nat} {wr : Bool} (hb : h.get b = some (x, wr)) :
    ClEq Try.prog (.func (.func 20) [] []) [.agg [.slice b off nn cp], .agg (tkL tk), .int .i64 c, .int .i64 (n : Nat)] h (slV h.next n) (newL h n (nints (searchP rs c n tk n)) 3) :=
  choose2_list hx (choose2_sp hx c n n tk h1 (Nat.le_refl _) hn) hb
end Go.Proofs.Ytjhgomacanffkaa
namespace Go.Proofs.Ytjhgomacanffkaa
open Go Sx Go.RowKit
-- STOPS tkL, nints, hvS, slV, boxH, hC, hC3

theorem enters8 : Go.Proofs.Enters Try.prog 8 := Go.Proofs.enters_of Try.func8 (by kernel_rfl) rfl
theorem enters9 : Go.Proofs.Enters Try.prog 9 := Go.Proofs.enters_of Try.func9 (by kernel_rfl) rfl
noncomputable def l8 : List Code := flat (bodyC Try.prog 8)
theorem l8_eq : flat (bodyC Try.prog 8) = l8.take 6 ++ (.block 0 (.loop (loopAt l8 6)) :: l8.drop 7) := by kernel_rfl
theorem l8_eq2 : l8.drop 7 = (l8.drop 7).take 2 ++ (.block 2 (.loop (loopAt l8 9)) :: l8.drop 10) := by kernel_rfl
noncomputable def l9 : List Code := flat (bodyC Try.prog 9)
theorem l9_eq : flat (bodyC Try.prog 9) = l9.take 4 ++ (.block 0 (.loop (loopAt l9 4)) :: l9.drop 5) := by kernel_rfl

def hC2 (x : Bx) (hv : IV) (tk : Nat → Bool) : H := ((boxH [x]).new (.cells [hv] 24)).new (.cells (tkL tk) 25)
def hC3 (x : Bx) (hv : IV) (tk inm : Nat → Bool) : H := (hC2 x hv tk).new (.cells (tkL inm) 25)
def hC (x : Bx) (hv : IV) (tk inm : Nat → Bool) (l : List Nat) : H := (hC3 x hv tk inm).new (.cells (nints l) 3)
def noB : Nat → Bool := fun _ => false

def oc8 (hv lv v : IV) (tk inm inm' : Nat → Bool) (h h1 h2 : H) (i m s fc : Nat) (l : List Nat) (lt1 ltn lt b : Bool) : Nat → Nat → Option It := fun f t => match f, t with
  | 8, 16 => some (.w (.bool lt1))
  | 8, 18 => some (.l (.agg [hv]) (.cells [hv] 24, true))
  | 8, 19 => some (.l (.agg (tkL tk)) (.cells (tkL tk) 25, true))
  | 8, 21 => some (.c (.int .i64 (fc : Nat)) h1)
  | 8, 23 => some (.w (.bool ltn))
  | 8, 25 => some (.l (.agg [hv]) (.cells [hv] 24, true))
  | 8, 26 => some (.l (.agg (tkL tk)) (.cells (tkL tk) 25, true))
  | 8, 29 => some (.c lv h2)
  | 8, 32 => some (.g (.int .i64 (m : Nat)) h)
  | 8, 33 => some (.w (.bool lt))
  | 8, 38 => some (.o (.ptr 4 i))
  | 8, 39 => some (.l (.int .i64 (s : Nat)) (.cells (nints l) 3, true))
  | 8, 40 => some (.o (.ptr 3 s))
  | 8, 1040 => some (.t (tkL inm) 25 (tkL inm'))
  | 8, 35 => some (.w (.int .i64 ((i + 1 : Nat) : Int)))
  | 8, 42 => some (.w (.bool lt))
  | 8, 46 => some (.o (.ptr 3 i))
  | 8, 47 => some (.l (.bool b) (.cells (tkL inm) 25, true))
  | 8, 51 => some (.g v h2)
  | 8, 44 => some (.w (.int .i64 ((i + 1 : Nat) : Int)))
  | _, _ => none
def oc9 (p q i m va : Nat) (A : List Nat) (h : H) (lt : Bool) : Nat → Nat → Option It := fun f t => match f, t with
  | 9, 7 => some (.g (.int .i64 (m : Nat)) h)
  | 9, 9 => some (.g (.int .i64 (m : Nat)) h)
  | 9, 10 => some (.w (.bool false))
  | 9, 13 => some (.g (.int .i64 (m : Nat)) h)
  | 9, 14 => some (.w (.bool lt))
  | 9, 19 => some (.o (.ptr p i))
  | 9, 20 => some (.l (.int .i64 (va : Nat)) (.cells (nints A) 3, true))
  | 9, 23 => some (.o (.ptr q i))
  | 9, 24 => some (.l (.int .i64 (va : Nat)) (.cells (nints A) 3, true))
  | 9, 25 => some (.w (.bool false))
  | 9, 16 => some (.w (.int .i64 ((i + 1 : Nat) : Int)))
  | _, _ => none
section
variable (x : Bx) (hv lv lw v : IV) (tk inm inm' : Nat → Bool) (h h1 h2 : H) (c z : Int) (n i m s fc p q va : Nat) (l A : List Nat) (lt b : Bool) (g : Nat → IV)
theorem pre8_lt : psR Try.prog tab (oc8 hv lv v tk inm inm' h h1 h2 i m s fc l true true lt b) 50 8 none 53 (l8.take 6) (canon 53 (fun j => [IV.agg [hv], .agg (tkL tk), .int .i64 c, .int .i64 z].getD j undefI) []) (boxH [x]) [8, 9] =
  some (Out.ret, [IV.nilslice, IV.bool false], hC2 x hv tk, [], [IV.bool (decide (z < 1)) = IV.bool true]) := by kernel_rfl
theorem pre8_gt : psR Try.prog tab (oc8 hv lv v tk inm inm' h (hC2 x hv tk) h2 i m s fc l false true lt b) 50 8 none 53 (l8.take 6) (canon 53 (fun j => [IV.agg [hv], .agg (tkL tk), .int .i64 c, .int .i64 z].getD j undefI) []) (boxH [x]) [8, 9] =
  some (Out.ret, [IV.nilslice, IV.bool false], hC2 x hv tk, [], [
    IV.bool (decide (z < 1)) = IV.bool false, H.get (hC2 x hv tk) 1 = some (Bx.cells [hv] 24, true), ldX (Bx.cells [hv] 24, true) true 1 0 = some (IV.agg [hv]), H.get (hC2 x hv tk) 2 = some (Bx.cells (tkL tk) 25, true), ldX (Bx.cells (tkL tk) 25, true) true 64 0 = some (IV.agg (tkL tk)), ClEq Try.prog (IV.func (IFn.func 19) [] []) [IV.agg [hv], IV.agg (tkL tk), IV.int .i64 c] (hC2 x hv tk) (IV.int .i64 (↑fc : Int)) (hC2 x hv tk), IV.bool (decide ((↑fc : Int) < z)) = IV.bool true]) := by kernel_rfl
theorem pre8_go : psR Try.prog tab (oc8 hv lv v tk inm inm' h (hC2 x hv tk) (hC x hv tk noB l) i m s fc l false false lt b) 50 8 none 53 (l8.take 6) (canon 53 (fun j => [IV.agg [hv], .agg (tkL tk), .int .i64 c, .int .i64 z].getD j undefI) []) (boxH [x]) [10, 11, 12] =
  some (Out.normal, [IV.ptr 3 0, lv, IV.int .i64 0], hC x hv tk noB l, [], [
    IV.bool (decide (z < 1)) = IV.bool false, H.get (hC2 x hv tk) 1 = some (Bx.cells [hv] 24, true), ldX (Bx.cells [hv] 24, true) true 1 0 = some (IV.agg [hv]), H.get (hC2 x hv tk) 2 = some (Bx.cells (tkL tk) 25, true), ldX (Bx.cells (tkL tk) 25, true) true 64 0 = some (IV.agg (tkL tk)), ClEq Try.prog (IV.func (IFn.func 19) [] []) [IV.agg [hv], IV.agg (tkL tk), IV.int .i64 c] (hC2 x hv tk) (IV.int .i64 (↑fc : Int)) (hC2 x hv tk), IV.bool (decide ((↑fc : Int) < z)) = IV.bool false, H.get (hC3 x hv tk noB) 1 = some (Bx.cells [hv] 24, true), ldX (Bx.cells [hv] 24, true) true 1 0 = some (IV.agg [hv]), H.get (hC3 x hv tk noB) 2 = some (Bx.cells (tkL tk) 25, true), ldX (Bx.cells (tkL tk) 25, true) true 64 0 = some (IV.agg (tkL tk)), ClEq Try.prog (IV.func (IFn.func 20) [] []) [IV.agg [hv], IV.agg (tkL tk), IV.int .i64 c, IV.int .i64 z] (hC3 x hv tk noB) lv (hC x hv tk noB l)]) := by kernel_rfl
def lv8 (lv : IV) (i : Nat) : List IV := [.ptr 3 0, lv, .int .i64 (i : Nat)]
theorem a8_end : pxR Try.prog tab (oc8 hv lv v tk inm inm' h h1 h2 i m s fc l true true false b) 50 8 none 53 (loopAt l8 6) (canon 53 (ov [10, 11, 12] (lv8 lv i) g) []) h [10] =
  some (Out.exit 0, [IV.ptr 3 0], h, [], [builtinI tab Builtin.len [27] [lv] h = some (IV.int .i64 (↑m : Int), h), IV.bool (decide ((↑i : Int) < (↑m : Int))) = IV.bool false]) := by kernel_rfl
theorem a8_go : pxR Try.prog tab (oc8 hv lv v tk inm inm' h h1 h2 i m s fc l true true true b) 50 8 none 53 (loopAt l8 6) (canon 53 (ov [10, 11, 12] (lv8 lv i) g) []) h [10, 11, 12] =
  some (Out.normal, [IV.ptr 3 0, lv, IV.int .i64 (↑(i + 1) : Int)], H.put h 3 (Bx.cells (tkL inm') 25), [], [
    builtinI tab Builtin.len [27] [lv] h = some (IV.int .i64 (↑m : Int), h), IV.bool (decide ((↑i : Int) < (↑m : Int))) = IV.bool true, indexAddrI tab 27 lv (IV.int .i64 (↑i : Int)) = some (IV.ptr 4 i), H.get h 4 = some (Bx.cells (nints l) 3, true), ldX (Bx.cells (nints l) 3, true) false 1 i = some (IV.int .i64 (↑s : Int)), indexAddrI tab 25 (IV.ptr 3 0) (IV.int .i64 (↑s : Int)) = some (IV.ptr 3 s), H.get h 3 = some (Bx.cells (tkL inm) 25, true), stC 1 (tkL inm) s (IV.bool true) = some (tkL inm'), IV.int .i64 (IntKind.wrap .i64 ((↑i : Int) + 1)) = IV.int .i64 (↑(i + 1) : Int)]) := by kernel_rfl
theorem mid8 : psR Try.prog tab (oc8 hv lv v tk inm inm' h h1 h2 i m s fc l true true true b) 50 8 none 53 ((l8.drop 7).take 2) (canon 53 (ov [10] [.ptr 3 0] g) []) h [10, 13, 14] =
  some (Out.normal, [IV.ptr 3 0, IV.nilslice, IV.int .i64 0], h, [], []) := by kernel_rfl
theorem b8_end : pxR Try.prog tab (oc8 hv lv v tk inm inm' h h1 h2 i m s fc l true true false b) 50 8 none 53 (loopAt l8 9) (canon 53 (ov [10, 13, 14] (lv8 lv i) g) []) h [13] =
  some (Out.exit 2, [lv], h, [], [IV.bool (decide ((↑i : Int) < 64)) = IV.bool false]) := by kernel_rfl
theorem b8_no : pxR Try.prog tab (oc8 hv lv v tk inm inm' h h1 h2 i m s fc l true true true false) 50 8 none 53 (loopAt l8 9) (canon 53 (ov [10, 13, 14] (lv8 lv i) g) []) h [10, 13, 14] =
  some (Out.normal, [IV.ptr 3 0, lv, IV.int .i64 (↑(i + 1) : Int)], h, [], [IV.bool (decide ((↑i : Int) < 64)) = IV.bool true, indexAddrI tab 25 (IV.ptr 3 0) (IV.int .i64 (↑i : Int)) = some (IV.ptr 3 i), H.get h 3 = some (Bx.cells (tkL inm) 25, true), ldX (Bx.cells (tkL inm) 25, true) false 1 i = some (IV.bool false), IV.int .i64 (IntKind.wrap .i64 ((↑i : Int) + 1)) = IV.int .i64 (↑(i + 1) : Int)]) := by kernel_rfl
theorem b8_yes : pxR Try.prog tab (oc8 hv lv v tk inm inm' h h1 h2 i m s fc l true true true true) 50 8 none 53 (loopAt l8 9) (canon 53 (ov [10, 13, 14] (lv8 lv i) g) []) h [10, 13, 14] =
  some (Out.normal, [IV.ptr 3 0, v, IV.int .i64 (↑(i + 1) : Int)], h2, [], [
    IV.bool (decide ((↑i : Int) < 64)) = IV.bool true, indexAddrI tab 25 (IV.ptr 3 0) (IV.int .i64 (↑i : Int)) = some (IV.ptr 3 i), H.get h 3 = some (Bx.cells (tkL inm) 25, true), ldX (Bx.cells (tkL inm) 25, true) false 1 i = some (IV.bool true), builtinI tab Builtin.append [27, 27] [lv, IV.slice h.next 0 1 (Cap.hard 1)] (H.new h (Bx.cells [IV.int .i64 (↑i : Int)] 3)) = some (v, h2), IV.int .i64 (IntKind.wrap .i64 ((↑i : Int) + 1)) = IV.int .i64 (↑(i + 1) : Int)]) := by kernel_rfl
theorem post8 : psR Try.prog tab (fun _ _ => none) 50 8 none 53 (l8.drop 10) (canon 53 (ov [13] [lv] g) []) h [8, 9] =
  some (Out.ret, [lv, IV.bool true], h, [], []) := by kernel_rfl
theorem pre9 : psR Try.prog tab (oc9 p q i m va A h true) 50 9 none 26 (l9.take 4) (canon 26 (fun j => [lv, lw].getD j undefI) []) h [0, 1, 5] =
  some (Out.normal, [lv, lw, IV.int .i64 0], h, [], [builtinI tab Builtin.len [27] [lv] h = some (IV.int .i64 (↑m : Int), h), builtinI tab Builtin.len [27] [lw] h = some (IV.int .i64 (↑m : Int), h), IV.bool ((↑m : Int) != (↑m : Int)) = IV.bool false]) := by kernel_rfl
def lv9 (lv lw : IV) (i : Nat) : List IV := [lv, lw, .int .i64 (i : Nat)]
theorem r9_end : pxR Try.prog tab (oc9 p q i m va A h false) 50 9 none 26 (loopAt l9 4) (canon 26 (ov [0, 1, 5] (lv9 lv lw i) g) []) h [] =
  some (Out.exit 0, [], h, [], [builtinI tab Builtin.len [27] [lv] h = some (IV.int .i64 (↑m : Int), h), IV.bool (decide ((↑i : Int) < (↑m : Int))) = IV.bool false]) := by kernel_rfl
theorem r9_go : pxR Try.prog tab (oc9 p q i m va A h true) 50 9 none 26 (loopAt l9 4) (canon 26 (ov [0, 1, 5] (lv9 lv lw i) g) []) h [0, 1, 5] =
  some (Out.normal, [lv, lw, IV.int .i64 (↑(i + 1) : Int)], h, [], [
    builtinI tab Builtin.len [27] [lv] h = some (IV.int .i64 (↑m : Int), h), IV.bool (decide ((↑i : Int) < (↑m : Int))) = IV.bool true, indexAddrI tab 27 lv (IV.int .i64 (↑i : Int)) = some (IV.ptr p i), H.get h p = some (Bx.cells (nints A) 3, true), ldX (Bx.cells (nints A) 3, true) false 1 i = some (IV.int .i64 (↑va : Int)), indexAddrI tab 27 lw (IV.int .i64 (↑i : Int)) = some (IV.ptr q i), H.get h q = some (Bx.cells (nints A) 3, true), ldX (Bx.cells (nints A) 3, true) false 1 i = some (IV.int .i64 (↑va : Int)), IV.bool ((↑va : Int) != (↑va : Int)) = IV.bool false, IV.int .i64 (IntKind.wrap .i64 ((↑i : Int) + 1)) = IV.int .i64 (↑(i + 1) : Int)]) := by kernel_rfl
theorem post9 : psR Try.prog tab (fun _ _ => none) 50 9 none 26 (l9.drop 5) (canon 26 (ov [] [] g) []) h [4] =
  some (Out.ret, [IV.bool true], h, [], []) := by kernel_rfl
end
end Go.Proofs.Ytjhgomacanffkaa
namespace Go.Proofs.Ytjhgomacanffkaa
open Go Sx Go.RowKit

theorem mark_range {l : List Nat} (hn : l.Nodup) (h64 : ∀ s ∈ l, s < 64) : (List.range 64).filter (fun s => decide (s ∈ l)) = sortN l := by
  have h4 : (sortN l).Pairwise fun a b => decide (a ≤ b) = true := List.pairwise_mergeSort (fun a b c => by simp; omega) (fun a b => by simp; omega) _
  have h5 := (sortN_perm l).nodup_iff.2 hn
  refine sorted_ext (range_pw _ _) ((h4.and h5).imp fun {a b} h => ?_) fun s => ?_
  · have : a ≤ b := by simpa using h.1
    have := h.2
    omega
  · rw [List.mem_filter, List.mem_range, mem_sortN, decide_eq_true_iff]
    exact ⟨fun h => h.2, fun h => ⟨h64 s h, h⟩⟩

def outR (l : List Nat) (i : Nat) : List Nat := (List.range i).filter fun s => decide (s ∈ l)
theorem outR_succ (l : List Nat) (i : Nat) : outR l (i + 1) = outR l i ++ (if i ∈ l then [i] else []) := by
  unfold outR
  rw [List.range_succ, List.filter_append]
  by_cases h : i ∈ l
  · simp [h]
  · simp [h]
theorem outR_length (l : List Nat) (i : Nat) : (outR l i).length ≤ i := by
  unfold outR
  refine Nat.le_trans (List.length_filter_le _ _) ?_
  simp

theorem chooseR_sp {x : Bx} {off nn : Nat} {cp : Cap} {rs : List (Int × Int)} (hx : HallX x off nn cp rs) (c n : Int) (tk : Nat → Bool) :
    Sp Try.prog 8 [.agg [.slice 0 off nn cp], .agg (tkL tk), .int .i64 c, .int .i64 n] (boxH [x]) fun v' h' => ∃ s, v' = .tup [slV s (chooseP rs c tk n).length, .bool (okP rs c tk n)] ∧
      ((chooseP rs c tk n).length = 0 ∨ (h'.get s = some (.cells (nints (chooseP rs c tk n)) 3, true) ∧ [x].length ≤ s)) ∧ ∀ i y, (boxH [x]).get i = some y → h'.get i = some y := by
  have h8 : rs.length ≤ 8 := by have := hx.len; omega
  have hf64 := free_le h8 c tk
  let hv : IV := .slice 0 off nn cp
  have k0 : (hC2 x hv tk).get 0 = some (x, false) := by kernel_rfl
  have k1 : (hC2 x hv tk).get 1 = some (.cells [hv] 24, true) := by kernel_rfl
  have k2 : (hC2 x hv tk).get 2 = some (.cells (tkL tk) 25, true) := by kernel_rfl
  have q1 := free2_cl hx c tk k0
  refine Sp.of_ev tab_ok Try.func8 (c := bodyC Try.prog 8) (by kernel_rfl) (Nat.le_of_ble_eq_true rfl) ?_
  show Ev Try.prog none 53 (bodyC Try.prog 8) (BodyQ tab [.tmp 8, .tmp 9] _) _ _
  refine Ev.of_flat l8_eq ?_
  have done0 : ∀ (fr3 : Fr), ¬ (1 ≤ n ∧ n ≤ (free rs c tk).length) → fr3.marks = [] → fr3.tm.tmp 8 = .nilslice → fr3.tm.tmp 9 = .bool false →
      BodyQ tab [.tmp 8, .tmp 9] (fun v' h' => ∃ s, v' = .tup [slV s (chooseP rs c tk n).length, .bool (okP rs c tk n)] ∧ ((chooseP rs c tk n).length = 0 ∨ (h'.get s = some (.cells (nints (chooseP rs c tk n)) 3, true) ∧ [x].length ≤ s)) ∧ ∀ i y, (boxH [x]).get i = some y → h'.get i = some y) .ret fr3 (hC2 x hv tk) := by
    intro fr3 hno hm e8 e9
    refine ⟨.inr rfl, _, [.nilslice, .bool false], by rw [hm]; rfl, by simp only [resI, e8, e9, Option.map_some], 0, ?_, .inl ?_, keep0 k0⟩
    · unfold chooseP okP
      rw [if_neg hno, decide_eq_false hno]
      rfl
    · unfold chooseP
      rw [if_neg hno]; rfl
  by_cases hn1 : n < 1
  · refine EvS.px tab_ok mixed (FrIs.start 53 _) (by simp) (pre8_lt x hv .nilslice .nilslice tk noB noB (boxH []) (boxH []) (boxH []) c n 0 0 0 0 [] true true) ⟨cT hn1, trivial⟩ fun fr g hf => ?_
    exact done0 fr (by omega) hf.1 (hf.2 8 (by decide)) (hf.2 9 (by decide))
  by_cases hn2 : (free rs c tk).length < n
  · refine EvS.px tab_ok mixed (FrIs.start 53 _) (by simp) (pre8_gt x hv .nilslice .nilslice tk noB noB (boxH []) (boxH []) c n 0 0 0 _ [] true true) ⟨cF hn1, k1, rfl, k2, tk_ld tk, q1, cT hn2, trivial⟩ fun fr g hf => ?_
    exact done0 fr (by omega) hf.1 (hf.2 8 (by decide)) (hf.2 9 (by decide))
  obtain ⟨m, rfl⟩ : ∃ m : Nat, n = m := ⟨n.toNat, by omega⟩
  have hm1 : 1 ≤ m := by omega
  have hm2 : m ≤ (free rs c tk).length := by omega
  have k30 : (hC3 x hv tk noB).get 0 = some (x, false) := by kernel_rfl
  have k31 : (hC3 x hv tk noB).get 1 = some (.cells [hv] 24, true) := by kernel_rfl
  have k32 : (hC3 x hv tk noB).get 2 = some (.cells (tkL tk) 25, true) := by kernel_rfl
  have q3 := choose2_cl hx c hm1 hm2 k30
  rw [newL_pos hm1, slV_pos hm1] at q3
  obtain ⟨hsl, hnd, hfr⟩ := search_ok rs c m m tk (Nat.le_refl _) hm2
  have hP : chooseP rs c tk (m : Int) = sortN (searchP rs c m tk m) := by
    unfold chooseP
    rw [if_pos ⟨by omega, by omega⟩, Int.toNat_natCast]
  have hO : okP rs c tk (m : Int) = true := by unfold okP; rw [decide_eq_true (by omega)]
  have hl64 : ∀ s ∈ searchP rs c m tk m, s < 64 := fun s hs => free_lt h8 (hfr s hs)
  have hmr := mark_range hnd hl64
  rw [hP, hO]
  generalize searchP rs c m tk m = l at *
  have hlm : l.length ≤ 64 := by omega
  have kC : ∀ inm inm', (hC x hv tk inm l).put 3 (.cells (tkL inm') 25) = hC x hv tk inm' l := fun inm inm' => by kernel_rfl
  have kC3 : ∀ inm, (hC x hv tk inm l).get 3 = some (.cells (tkL inm) 25, true) := fun inm => by kernel_rfl
  have kC4 : ∀ inm, (hC x hv tk inm l).get 4 = some (.cells (nints l) 3, true) := fun inm => by kernel_rfl
  have kC0 : ∀ inm, (hC x hv tk inm l).get 0 = some (x, false) := fun inm => by kernel_rfl
  have hdC : ∀ inm, ∀ i y, (hC x hv tk inm l).get i = some y → i < (hC x hv tk inm l).next := fun inm => dom_new (dom_new (dom_new (dom_new dom_boxH)))
  refine EvS.px tab_ok mixed (FrIs.start 53 _) (by simp) (pre8_go x hv (.slice 4 0 m (.soft 0)) .nilslice tk noB noB (boxH []) c m 0 0 0 _ l true true) ⟨cF hn1, k1, rfl, k2, tk_ld tk, q1, cF hn2, k31, rfl, k32, tk_ld tk, q3, trivial⟩ fun fr g hf => ?_
  have esl : IV.slice 4 0 m (.soft 0) = slV 4 l.length := by rw [hsl, slV_pos hm1]
  rw [esl] at hf
  refine EvS.loop (fun t fr h => ∃ i, i ≤ l.length ∧ t = l.length - i ∧ h = hC x hv tk (mark noB (l.take i)) l ∧ ∃ g, FrIs 53 fr (ov [10, 11, 12] (lv8 (slV 4 l.length) i) g) []) l.length
    ⟨0, by omega, by omega, by rw [List.take_zero, mark_nil], g, hf⟩ ?_
  rintro t fr h ⟨i, hi, rfl, rfl, g, hf⟩
  by_cases hlt : i < l.length
  · obtain ⟨s, hs⟩ : ∃ s, l[i]? = some s := ⟨l[i], by simp [hlt]⟩
    have hs64 := hl64 s (List.mem_of_getElem? hs)
    have htake : l.take (i + 1) = l.take i ++ [s] := by rw [List.take_add_one, hs]; rfl
    refine Ev.px tab_ok mixed hf (a8_go hv (slV 4 l.length) .nilslice tk (mark noB (l.take i)) (mark noB (l.take (i + 1))) _ (boxH []) (boxH []) i l.length s 0 l true g)
      ⟨len_slV t27d _ _ _, cT (by omega), xN hlt, kC4 _, lN hs, by rw [ix_arr t25d t4s hs64]; simp, kC3 _, tk_set hs64 fun i => by rw [htake, mark_snoc], cW (by omega) (by omega) (by omega), trivial⟩ fun fr2 g2 hf2 => ?_
    exact ⟨l.length - (i + 1), by omega, i + 1, by omega, rfl, kC _ _, g2, hf2⟩
  obtain rfl : i = l.length := by omega
  rw [List.take_length]
  refine Ev.px tab_ok mixed hf (a8_end hv (slV 4 l.length) .nilslice tk noB noB _ (boxH []) (boxH []) l.length l.length 0 0 l true g) ⟨len_slV t27d _ _ _, cF (by omega), trivial⟩ fun fr2 g2 hf2 => ?_
  refine RoundEnds.out ?_
  rw [l8_eq2]
  refine EvS.px tab_ok mixed hf2 (by simp) (mid8 hv .nilslice .nilslice tk noB noB _ (boxH []) (boxH []) 0 0 0 0 l true g2) trivial fun fr3 g3 hf3 => ?_
  have hmk : ∀ s, mark noB l s = decide (s ∈ l) := fun s => by simp [mark, noB]
  refine EvS.loop (fun t fr h => ∃ i s, i ≤ 64 ∧ t = 64 - i ∧ JL (hC x hv tk (mark noB l) l) (nints (outR l i)) 3 (outR l i).length h s ∧ ∃ g, FrIs 53 fr (ov [10, 13, 14] (lv8 (slV s (outR l i).length) i) g) []) 64
    ⟨0, 0, by omega, by omega, JL.start (hdC _) _ _ _, g3, hf3⟩ ?_
  rintro t fr h ⟨i, s, hi, rfl, j, g, hf4⟩
  have hol := outR_length l i
  by_cases hlt : i < 64
  case neg =>
    obtain rfl : i = 64 := by omega
    have e64 : outR l 64 = sortN l := hmr
    rw [e64] at j hf4
    refine Ev.px tab_ok mixed hf4 (b8_end hv (slV s (sortN l).length) .nilslice tk noB noB h (boxH []) (boxH []) 64 0 0 0 l true g) ⟨cF (by omega), trivial⟩ fun fr5 g5 hf5 => ?_
    refine RoundEnds.out ?_
    refine EvS.pxEnd tab_ok mixed hf5 (List.cons_ne_nil _ _) (post8 _ h g5) trivial fun fr6 g6 hf6 => ?_
    have e8 : fr6.tm.tmp 8 = slV s (sortN l).length := hf6.2 8 (by decide)
    have e9 : fr6.tm.tmp 9 = .bool true := hf6.2 9 (by decide)
    refine ⟨.inr rfl, h, [slV s (sortN l).length, .bool true], by rw [hf6.1]; rfl, by simp only [resI, e8, e9, Option.map_some], s, rfl, j.gs.imp id fun ⟨a, _, c⟩ => ⟨c, Nat.le_trans (by show 1 ≤ 5; decide) a⟩, keep0 (j.keep _ _ (kC0 _))⟩
  have hos := outR_succ l i
  have hix : indexAddrI tab 25 (.ptr 3 0) (.int .i64 (i : Nat)) = some (.ptr 3 i) := by rw [ix_arr t25d t4s hlt]; simp
  have htl : ∀ t, decide (i ∈ l) = t → ldX (.cells (tkL (mark noB l)) 25, true) false 1 i = some (.bool t) := fun t ht => by
    show (tkL (mark noB l))[i]? = _
    rw [tkL_get hlt, hmk, ht]
  by_cases hm : i ∈ l
  · rw [if_pos hm] at hos
    obtain ⟨h2, ha, j2⟩ := JL.app (news := [.int .i64 (i : Nat)]) (hdC _) j t27d t3i (by decide) (by decide) (by omega) (by rw [nints_length, Nat.mul_one]) rfl rfl
    refine Ev.px tab_ok mixed hf4 (b8_yes hv _ _ tk (mark noB l) noB h (boxH []) h2 i 0 0 0 l g) ⟨cT (by omega), hix, j.keep _ _ (kC3 _), htl _ (decide_eq_true hm), ha, cW (by omega) (by omega) (by omega), trivial⟩ fun fr5 g5 hf5 => ?_
    refine ⟨64 - (i + 1), by omega, i + 1, h.next + 1, by omega, rfl, ?_, g5, ?_⟩
    · rw [hos, List.length_append, List.length_singleton]
      have : nints (outR l i ++ [i]) = nints (outR l i) ++ [.int .i64 (i : Nat)] := by simp [nints]
      rw [this]; exact j2
    · rw [hos, List.length_append, List.length_singleton]; exact hf5
  · rw [if_neg hm, List.append_nil] at hos
    refine Ev.px tab_ok mixed hf4 (b8_no hv _ .nilslice tk (mark noB l) noB h (boxH []) (boxH []) i 0 0 0 l g) ⟨cT (by omega), hix, j.keep _ _ (kC3 _), htl _ (decide_eq_false hm), cW (by omega) (by omega) (by omega), trivial⟩ fun fr5 g5 hf5 => ?_
    exact ⟨64 - (i + 1), by omega, i + 1, s, by omega, rfl, by rw [hos]; exact j, g5, by rw [hos]; exact hf5⟩
theorem chooseR_cl {x : Bx} {off nn : Nat} {cp : Cap} {rs : List (Int × Int)} (hx : HallX x off nn cp rs) (c n : Int) (tk : Nat → Bool) {h : H} {b : Nat} {wr : Bool} (hb : h.get b = some (x, wr)) :
    ClEq Try.prog (.func (.func 8) [] []) [.agg [.slice b off nn cp], .agg (tkL tk), .int .i64 c, .int .i64 n] h (.tup [slV h.next (chooseP rs c tk n).length, .bool (okP rs c tk n)]) (newL h (chooseP rs c tk n).length (nints (chooseP rs c tk n)) 3) := by
  refine Cl.of_sp (first := []) (cap := []) enters8 ?_
  have := Sp.listB (bs := [x]) (by simp [hx.fl]) (by simp [underLB, IV.underB, under_tk]) (nints_flat _) (chooseR_sp hx c n tk) (H0 := h) (fun _ => b) (fun i o ho => by
    cases i with
    | zero => simp at ho; subst ho; exact ⟨wr, hb⟩
    | succ i => simp at ho) (fun i j hi hj _ => by simp at hi hj; omega)
  simp only [renL, IV.ren, ren_tk] at this
  exact this

theorem ints_cl {h : H} {p q : Nat} {A : List Nat} (hl : A.length < 10000) (hp : 0 < A.length → h.get p = some (.cells (nints A) 3, true)) (hq : 0 < A.length → h.get q = some (.cells (nints A) 3, true)) :
    ClEq Try.prog (.func (.func 9) [] []) [slV p A.length, slV q A.length] h (.bool true) h := by
  refine Cl.of_sp (first := []) (cap := []) enters9 ?_
  refine Sp.of_ev tab_ok Try.func9 (c := bodyC Try.prog 9) (by kernel_rfl) (Nat.le_of_ble_eq_true rfl) ?_
  show Ev Try.prog none 26 (bodyC Try.prog 9) (BodyQ tab [.tmp 4] _) _ _
  refine Ev.of_flat l9_eq ?_
  refine EvS.px tab_ok mixed (FrIs.start 26 _) (by simp) (pre9 (slV p A.length) (slV q A.length) h 0 A.length p q 0 A) ⟨len_slV t27d _ _ _, len_slV t27d _ _ _, nF rfl, trivial⟩ fun fr g hf => ?_
  refine EvS.loop (fun t fr h' => ∃ i, i ≤ A.length ∧ t = A.length - i ∧ h' = h ∧ ∃ g, FrIs 26 fr (ov [0, 1, 5] (lv9 (slV p A.length) (slV q A.length) i) g) []) A.length
    ⟨0, by omega, by omega, rfl, g, hf⟩ ?_
  rintro t fr h' ⟨i, hi, rfl, rfl, g, hf⟩
  by_cases hlt : i < A.length
  · obtain ⟨v, hv⟩ : ∃ v, A[i]? = some v := ⟨A[i], by simp [hlt]⟩
    refine Ev.px tab_ok mixed hf (r9_go (slV p A.length) (slV q A.length) h' i A.length p q v A g) ⟨len_slV t27d _ _ _, cT (by omega), xN hlt, hp (by omega), lN hv, xN hlt, hq (by omega), lN hv, nF rfl, cW (by omega) (by omega) (by omega), trivial⟩ fun fr2 g2 hf2 => ?_
    exact ⟨A.length - (i + 1), by omega, i + 1, by omega, rfl, rfl, g2, hf2⟩
  obtain rfl : i = A.length := by omega
  refine Ev.px tab_ok mixed hf (r9_end (slV p A.length) (slV q A.length) h' A.length A.length p q 0 A g) ⟨len_slV t27d _ _ _, cF (by omega), trivial⟩ fun fr2 g2 hf2 => ?_
  refine RoundEnds.out ?_
  refine EvS.pxEnd tab_ok mixed hf2 (List.cons_ne_nil _ _) (post9 h' g2) trivial fun fr3 g3 hf3 => ?_
  have e4 : fr3.tm.tmp 4 = .bool true := hf3.2 4 (by decide)
  exact ⟨.inr rfl, h', [.bool true], by rw [hf3.1]; rfl, by simp only [resI, e4, Option.map_some], rfl, rfl⟩
end Go.Proofs.Ytjhgomacanffkaa
