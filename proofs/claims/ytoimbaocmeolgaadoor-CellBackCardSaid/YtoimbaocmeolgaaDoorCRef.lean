/- The reference's Open, run to each of its six ends. -/
import Derived.Test.YtoimbaocmeolgaaDoorCOpenB
namespace Go.Proofs.YtoimbaocmeolgaaDoor
open Go Sx Go.RowKit

noncomputable def l17 : List Code := flat (bodyC Tryd.prog 17)
theorem l17_eq : flat (bodyC Tryd.prog 17) = l17.take 11 ++ (.block 0 (.loop (loopAt l17 11)) :: l17.drop 12) := by kernel_rfl
def oc17 (d : OD) (c1 c2 c3 c4 : Bool) : Nat → Nat → Option It := fun f t => match f, t with
  | 17, 9 => some (.w (.bool c1))
  | 17, 12 => some (.o (.str [d.b0, d.b1, d.b2, d.b3]))
  | 17, 14 => some (.o (.str (d.s.take 252)))
  | 17, 15 => some (.p (.int .u32 (ad (d.s.take 252))))
  | 17, 16 => some (.w (.int .u64 (ad (d.s.take 252))))
  | 17, 17 => some (.p (.str (be (ad (d.s.take 252)) 4)))
  | 17, 18 => some (.w (.bool c2))
  | 17, 21 => some (.o (.int .u8 d.k))
  | 17, 22 => some (.w (.bool c3))
  | 17, 25 => some (.o (.int .u8 d.n))
  | 17, 26 => some (.w (.int .i64 d.n))
  | 17, 28 => some (.w (.bool c4))
  | 17, 31 => some (.w (.int .i64 (2 + d.n + 0 : Nat)))
  | 17, 43 => some (.o (.int .u8 d.k))
  | 17, 44 => some (.w (.int .i64 d.k))
  | 17, 47 => some (.w (.int .i64 (2 + d.n : Nat)))
  | 17, 48 => some (.o (.str d.body))
  | _, _ => none
def hO (c a : Int) : H := E0.new (.cells [.int .i64 c, .int .i64 a] 49)
def st17 (s : List UInt8) : Fr := canon 50 (fun j => [IV.str s].getD j undefI) []
def fl17 : List IV := [.int .i64 0, .str [], .ptr 0 0]
theorem rA (d : OD) : psR Tryd.prog tab (oc17 d true false false false) 50 17 none 50 (l17.take 11) (st17 d.s) E0 [2, 3, 4] = some (.ret, fl17, hO 2 0, [], [IV.bool ((d.s.length : Int) != 256) = .bool true]) := by kernel_rfl
theorem rB (d : OD) : psR Tryd.prog tab (oc17 d false true false false) 50 17 none 50 (l17.take 11) (st17 d.s) E0 [2, 3, 4] = some (.ret, fl17, hO 8 252, [], [IV.bool ((d.s.length : Int) != 256) = .bool false,
  sliceI tab 9 (.str d.s) (some (.int .i64 252)) none none ⟨.leaf, 0⟩ = some (.str [d.b0, d.b1, d.b2, d.b3]), sliceI tab 9 (.str d.s) none (some (.int .i64 252)) none ⟨.leaf, 0⟩ = some (.str (d.s.take 252)),
  ∀ hh, ClEq Tryd.prog (.func (.func 12) [] []) [.str (d.s.take 252)] hh (.int .u32 (ad (d.s.take 252))) hh, IV.int .u64 (IntKind.wrap .u64 (ad (d.s.take 252) : Int)) = .int .u64 (ad (d.s.take 252)),
  ∀ hh, ClEq Tryd.prog (.func (.func 11) [] []) [.int .u64 (ad (d.s.take 252)), .int .i64 4] hh (.str (be (ad (d.s.take 252)) 4)) hh,
  IV.bool ([d.b0, d.b1, d.b2, d.b3] != be (ad (d.s.take 252)) 4) = .bool true]) := by kernel_rfl
theorem rC (d : OD) : psR Tryd.prog tab (oc17 d false false true false) 50 17 none 50 (l17.take 11) (st17 d.s) E0 [2, 3, 4] = some (.ret, fl17, hO 6 0, [], [IV.bool ((d.s.length : Int) != 256) = .bool false,
  sliceI tab 9 (.str d.s) (some (.int .i64 252)) none none ⟨.leaf, 0⟩ = some (.str [d.b0, d.b1, d.b2, d.b3]), sliceI tab 9 (.str d.s) none (some (.int .i64 252)) none ⟨.leaf, 0⟩ = some (.str (d.s.take 252)),
  ∀ hh, ClEq Tryd.prog (.func (.func 12) [] []) [.str (d.s.take 252)] hh (.int .u32 (ad (d.s.take 252))) hh, IV.int .u64 (IntKind.wrap .u64 (ad (d.s.take 252) : Int)) = .int .u64 (ad (d.s.take 252)),
  ∀ hh, ClEq Tryd.prog (.func (.func 11) [] []) [.int .u64 (ad (d.s.take 252)), .int .i64 4] hh (.str (be (ad (d.s.take 252)) 4)) hh,
  IV.bool ([d.b0, d.b1, d.b2, d.b3] != be (ad (d.s.take 252)) 4) = .bool false,
  indexI tab 9 (.str d.s) (.int .i64 0) = some (.int .u8 d.k), IV.bool ((d.k : Int) == 0) = .bool true]) := by kernel_rfl
theorem rD (d : OD) : psR Tryd.prog tab (oc17 d false false false true) 50 17 none 50 (l17.take 11) (st17 d.s) E0 [2, 3, 4] = some (.ret, fl17, hO 4 1, [], [IV.bool ((d.s.length : Int) != 256) = .bool false,
  sliceI tab 9 (.str d.s) (some (.int .i64 252)) none none ⟨.leaf, 0⟩ = some (.str [d.b0, d.b1, d.b2, d.b3]), sliceI tab 9 (.str d.s) none (some (.int .i64 252)) none ⟨.leaf, 0⟩ = some (.str (d.s.take 252)),
  ∀ hh, ClEq Tryd.prog (.func (.func 12) [] []) [.str (d.s.take 252)] hh (.int .u32 (ad (d.s.take 252))) hh, IV.int .u64 (IntKind.wrap .u64 (ad (d.s.take 252) : Int)) = .int .u64 (ad (d.s.take 252)),
  ∀ hh, ClEq Tryd.prog (.func (.func 11) [] []) [.int .u64 (ad (d.s.take 252)), .int .i64 4] hh (.str (be (ad (d.s.take 252)) 4)) hh,
  IV.bool ([d.b0, d.b1, d.b2, d.b3] != be (ad (d.s.take 252)) 4) = .bool false,
  indexI tab 9 (.str d.s) (.int .i64 0) = some (.int .u8 d.k), IV.bool ((d.k : Int) == 0) = .bool false,
  indexI tab 9 (.str d.s) (.int .i64 1) = some (.int .u8 d.n), IV.int .i64 (IntKind.wrap .i64 (d.n : Int)) = .int .i64 d.n, IV.bool (decide ((d.n : Int) > 240)) = .bool true]) := by kernel_rfl
def lv17 (d : OD) (j : Nat) : List IV := [.str d.s, .ptr 0 0, .int .i64 d.n, .int .i64 (2 + d.n + j : Nat)]
theorem rL (d : OD) : psR Tryd.prog tab (oc17 d false false false false) 50 17 none 50 (l17.take 11) (st17 d.s) E0 [0, 4, 5, 6] = some (.normal, lv17 d 0, hO 0 0, [], [IV.bool ((d.s.length : Int) != 256) = .bool false,
  sliceI tab 9 (.str d.s) (some (.int .i64 252)) none none ⟨.leaf, 0⟩ = some (.str [d.b0, d.b1, d.b2, d.b3]), sliceI tab 9 (.str d.s) none (some (.int .i64 252)) none ⟨.leaf, 0⟩ = some (.str (d.s.take 252)),
  ∀ hh, ClEq Tryd.prog (.func (.func 12) [] []) [.str (d.s.take 252)] hh (.int .u32 (ad (d.s.take 252))) hh, IV.int .u64 (IntKind.wrap .u64 (ad (d.s.take 252) : Int)) = .int .u64 (ad (d.s.take 252)),
  ∀ hh, ClEq Tryd.prog (.func (.func 11) [] []) [.int .u64 (ad (d.s.take 252)), .int .i64 4] hh (.str (be (ad (d.s.take 252)) 4)) hh,
  IV.bool ([d.b0, d.b1, d.b2, d.b3] != be (ad (d.s.take 252)) 4) = .bool false,
  indexI tab 9 (.str d.s) (.int .i64 0) = some (.int .u8 d.k), IV.bool ((d.k : Int) == 0) = .bool false,
  indexI tab 9 (.str d.s) (.int .i64 1) = some (.int .u8 d.n), IV.int .i64 (IntKind.wrap .i64 (d.n : Int)) = .int .i64 d.n, IV.bool (decide ((d.n : Int) > 240)) = .bool false,
  IV.int .i64 (IntKind.wrap .i64 (2 + (d.n : Int))) = .int .i64 (2 + d.n + 0 : Nat)]) := by kernel_rfl
def ocL17 (d : OD) (j x : Nat) (lt nz : Bool) : Nat → Nat → Option It := fun f t => match f, t with
  | 17, 33 => some (.w (.bool lt))
  | 17, 38 => some (.o (.int .u8 x))
  | 17, 39 => some (.w (.bool nz))
  | 17, 35 => some (.w (.int .i64 (2 + d.n + (j + 1) : Nat)))
  | _, _ => none
theorem rLgo (d : OD) (j x : Nat) (g : Nat → IV) : pxR Tryd.prog tab (ocL17 d j x true false) 50 17 none 50 (loopAt l17 11) (canon 50 (ov [0, 4, 5, 6] (lv17 d j) g) []) (hO 0 0) [0, 4, 5, 6] = some (.normal, lv17 d (j + 1), hO 0 0, [],
  [IV.bool (decide (((2 + d.n + j : Nat) : Int) < 252)) = .bool true, indexI tab 9 (.str d.s) (.int .i64 (2 + d.n + j : Nat)) = some (.int .u8 x), IV.bool ((x : Int) != 0) = .bool false,
   IV.int .i64 (IntKind.wrap .i64 (((2 + d.n + j : Nat) : Int) + 1)) = .int .i64 (2 + d.n + (j + 1) : Nat)]) := by kernel_rfl
theorem rLnz (d : OD) (j x : Nat) (g : Nat → IV) : pxR Tryd.prog tab (ocL17 d j x true true) 50 17 none 50 (loopAt l17 11) (canon 50 (ov [0, 4, 5, 6] (lv17 d j) g) []) (hO 0 0) [2, 3, 4] = some (.ret, fl17, hO 5 (2 + d.n + j : Nat), [],
  [IV.bool (decide (((2 + d.n + j : Nat) : Int) < 252)) = .bool true, indexI tab 9 (.str d.s) (.int .i64 (2 + d.n + j : Nat)) = some (.int .u8 x), IV.bool ((x : Int) != 0) = .bool true]) := by kernel_rfl
theorem rLend (d : OD) (j x : Nat) (g : Nat → IV) : pxR Tryd.prog tab (ocL17 d j x false false) 50 17 none 50 (loopAt l17 11) (canon 50 (ov [0, 4, 5, 6] (lv17 d j) g) []) (hO 0 0) [0, 4, 5, 6] = some (.exit 0, lv17 d j, hO 0 0, [],
  [IV.bool (decide (((2 + d.n + j : Nat) : Int) < 252)) = .bool false]) := by kernel_rfl
theorem rF (d : OD) (j : Nat) (g : Nat → IV) : psR Tryd.prog tab (oc17 d false false false false) 50 17 none 50 (l17.drop 12) (canon 50 (ov [0, 4, 5, 6] (lv17 d j) g) []) (hO 0 0) [2, 3, 4] = some (.ret, [.int .i64 d.k, .str d.body, .ptr 0 0], hO 0 0, [],
  [indexI tab 9 (.str d.s) (.int .i64 0) = some (.int .u8 d.k), IV.int .i64 (IntKind.wrap .i64 (d.k : Int)) = .int .i64 d.k, IV.int .i64 (IntKind.wrap .i64 (2 + (d.n : Int))) = .int .i64 (2 + d.n : Nat),
   sliceI tab 9 (.str d.s) (some (.int .i64 2)) (some (.int .i64 (2 + d.n : Nat))) none ⟨.leaf, 0⟩ = some (.str d.body)]) := by kernel_rfl
end Go.Proofs.YtoimbaocmeolgaaDoor
