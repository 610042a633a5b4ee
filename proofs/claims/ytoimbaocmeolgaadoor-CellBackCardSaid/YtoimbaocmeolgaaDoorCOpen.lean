/- The program's Open, run to each of its six ends. -/
import Derived.Test.YtoimbaocmeolgaaDoorCTrim
namespace Go.Proofs.YtoimbaocmeolgaaDoor
open Go Sx Go.RowKit

def flt (r : Nat) : IV := .tup [.int .i64 0, .str [], .iface 62 (.ptr r 0)]
def fbk (code at' : Int) : Option (Bx × Bool) := some (.cells [.int .i64 code, .int .i64 at'] 49, true)
def stp (x : Int) (b : UInt8) : Int := IntKind.wrap .u32 (IntKind.wrap .u64 (BitVec.ofInt 64 (IntKind.wrap .u64 (IntKind.wrap .u64 x * 2 ^ (min (8 : Int).toNat 64))) ||| BitVec.ofInt 64 (IntKind.wrap .u64 (b.toNat : Int))).toNat)

structure OD where
  s : List UInt8
  b0 : UInt8
  b1 : UInt8
  b2 : UInt8
  b3 : UInt8
  N : Nat
  k : Nat
  n : Nat
  j : Nat
  z : List UInt8
  body : List UInt8

def oc13 (d : OD) (c1 c2 c3 c4 c5 : Bool) (tv : IV) : Nat → Nat → Option It := fun f t => match f, t with
  | 21, 5 => some (.w (.bool c1))
  | 23, 7 => some (.o (.str [d.b0, d.b1, d.b2, d.b3]))
  | 23, 10 => some (.w (.int .u32 d.N))
  | 23, 14 => some (.o (.str (d.s.take 252)))
  | 23, 15 => some (.p (.int .u32 (ad (d.s.take 252))))
  | 23, 16 => some (.w (.bool c2))
  | 26, 4 => some (.o (.int .u8 d.k))
  | 26, 5 => some (.w (.bool c3))
  | 27, 5 => some (.o (.int .u8 d.n))
  | 27, 6 => some (.w (.int .i64 d.n))
  | 27, 8 => some (.w (.bool c4))
  | 28, 8 => some (.w (.int .i64 (2 + d.n : Nat)))
  | 28, 9 => some (.o (.str d.z))
  | 28, 14 => some (.q tv 5)
  | 28, 16 => some (.w (.int .i64 d.j))
  | 28, 20 => some (.w (.bool c5))
  | 28, 22 => some (.w (.int .i64 (2 + d.n : Nat)))
  | 28, 24 => some (.w (.int .i64 (2 + d.n + d.j : Nat)))
  | 13, 17 => some (.o (.int .u8 d.k))
  | 13, 18 => some (.w (.int .i64 d.k))
  | 13, 21 => some (.w (.int .i64 (2 + d.n : Nat)))
  | 13, 22 => some (.o (.str d.body))
  | _, _ => none

theorem oA (d : OD) : pfO Tryd.prog tab (oc13 d false false false false false .nilslice) 80 13 [.str d.s] 3 = some (flt 3, fbk 2 0, [IV.bool ((d.s.length : Int) == 256) = .bool false]) := by kernel_rfl
theorem oB (d : OD) : pfO Tryd.prog tab (oc13 d true false false false false .nilslice) 80 13 [.str d.s] 5 = some (flt 5, fbk 8 252, [IV.bool ((d.s.length : Int) == 256) = .bool true,
  sliceI tab 9 (.str d.s) (some (.int .i64 252)) none none ⟨.leaf, 0⟩ = some (.str [d.b0, d.b1, d.b2, d.b3]),
  IV.int .u32 (stp (stp (stp (stp 0 d.b0) d.b1) d.b2) d.b3) = .int .u32 d.N,
  sliceI tab 9 (.str d.s) none (some (.int .i64 252)) none ⟨.leaf, 0⟩ = some (.str (d.s.take 252)),
  ∀ hh, ClEq Tryd.prog (.func (.func 15) [] []) [.str (d.s.take 252)] hh (.int .u32 (ad (d.s.take 252))) hh,
  IV.bool ((d.N : Int) == (ad (d.s.take 252) : Nat)) = .bool false]) := by kernel_rfl
theorem oC (d : OD) : pfO Tryd.prog tab (oc13 d true true false false false .nilslice) 80 13 [.str d.s] 5 = some (flt 5, fbk 6 0, [
  IV.bool ((d.s.length : Int) == 256) = .bool true,
  sliceI tab 9 (.str d.s) (some (.int .i64 252)) none none ⟨.leaf, 0⟩ = some (.str [d.b0, d.b1, d.b2, d.b3]),
  IV.int .u32 (stp (stp (stp (stp 0 d.b0) d.b1) d.b2) d.b3) = .int .u32 d.N,
  sliceI tab 9 (.str d.s) none (some (.int .i64 252)) none ⟨.leaf, 0⟩ = some (.str (d.s.take 252)),
  ∀ hh, ClEq Tryd.prog (.func (.func 15) [] []) [.str (d.s.take 252)] hh (.int .u32 (ad (d.s.take 252))) hh,
  IV.bool ((d.N : Int) == (ad (d.s.take 252) : Nat)) = .bool true,
  indexI tab 9 (.str d.s) (.int .i64 0) = some (.int .u8 d.k),
  IV.bool (decide ((d.k : Int) > 0)) = .bool false]) := by kernel_rfl
theorem oD (d : OD) : pfO Tryd.prog tab (oc13 d true true true false false .nilslice) 80 13 [.str d.s] 5 = some (flt 5, fbk 4 1, [
  IV.bool ((d.s.length : Int) == 256) = .bool true,
  sliceI tab 9 (.str d.s) (some (.int .i64 252)) none none ⟨.leaf, 0⟩ = some (.str [d.b0, d.b1, d.b2, d.b3]),
  IV.int .u32 (stp (stp (stp (stp 0 d.b0) d.b1) d.b2) d.b3) = .int .u32 d.N,
  sliceI tab 9 (.str d.s) none (some (.int .i64 252)) none ⟨.leaf, 0⟩ = some (.str (d.s.take 252)),
  ∀ hh, ClEq Tryd.prog (.func (.func 15) [] []) [.str (d.s.take 252)] hh (.int .u32 (ad (d.s.take 252))) hh,
  IV.bool ((d.N : Int) == (ad (d.s.take 252) : Nat)) = .bool true,
  indexI tab 9 (.str d.s) (.int .i64 0) = some (.int .u8 d.k),
  IV.bool (decide ((d.k : Int) > 0)) = .bool true,
  indexI tab 9 (.str d.s) (.int .i64 1) = some (.int .u8 d.n),
  IV.int .i64 (IntKind.wrap .i64 (d.n : Int)) = .int .i64 d.n,
  IV.bool (decide ((d.n : Int) ≤ 240)) = .bool false]) := by kernel_rfl
theorem oE (d : OD) : pfO Tryd.prog tab (oc13 d true true true true false (sl35 5 d.z.length d.j)) 80 13 [.str d.s] 6 = some (flt 6, fbk 5 (2 + d.n + d.j : Nat), [
  IV.bool ((d.s.length : Int) == 256) = .bool true,
  sliceI tab 9 (.str d.s) (some (.int .i64 252)) none none ⟨.leaf, 0⟩ = some (.str [d.b0, d.b1, d.b2, d.b3]),
  IV.int .u32 (stp (stp (stp (stp 0 d.b0) d.b1) d.b2) d.b3) = .int .u32 d.N,
  sliceI tab 9 (.str d.s) none (some (.int .i64 252)) none ⟨.leaf, 0⟩ = some (.str (d.s.take 252)),
  ∀ hh, ClEq Tryd.prog (.func (.func 15) [] []) [.str (d.s.take 252)] hh (.int .u32 (ad (d.s.take 252))) hh,
  IV.bool ((d.N : Int) == (ad (d.s.take 252) : Nat)) = .bool true,
  indexI tab 9 (.str d.s) (.int .i64 0) = some (.int .u8 d.k),
  IV.bool (decide ((d.k : Int) > 0)) = .bool true,
  indexI tab 9 (.str d.s) (.int .i64 1) = some (.int .u8 d.n),
  IV.int .i64 (IntKind.wrap .i64 (d.n : Int)) = .int .i64 d.n,
  IV.bool (decide ((d.n : Int) ≤ 240)) = .bool true,
  IV.int .i64 (IntKind.wrap .i64 (2 + (d.n : Int))) = .int .i64 (2 + d.n : Nat),
  sliceI tab 9 (.str d.s) (some (.int .i64 (2 + d.n : Nat))) (some (.int .i64 252)) none ⟨.leaf, 0⟩ = some (.str d.z),
  ∀ hh, hh.get 5 = some (.cells (sb d.z) 5, true) → ClEq Tryd.prog (.func (.func 29) [] []) [.slice 5 0 d.z.length (.soft 0), .str [0]] hh (sl35 5 d.z.length d.j) hh,
  IV.int .i64 (IntKind.wrap .i64 ((d.z.length : Int) - ((d.z.length - d.j : Nat) : Int))) = .int .i64 d.j,
  IV.bool ((d.j : Int) == (d.z.length : Nat)) = .bool false,
  IV.int .i64 (IntKind.wrap .i64 (2 + (d.n : Int))) = .int .i64 (2 + d.n : Nat),
  IV.int .i64 (IntKind.wrap .i64 (((2 + d.n : Nat) : Int) + (d.j : Int))) = .int .i64 (2 + d.n + d.j : Nat)]) := by kernel_rfl
theorem oF (d : OD) : pfV Tryd.prog tab (oc13 d true true true true true .nilslice) 80 13 [.str d.s] = some (.tup [.int .i64 d.k, .str d.body, .nilif], [
  IV.bool ((d.s.length : Int) == 256) = .bool true,
  sliceI tab 9 (.str d.s) (some (.int .i64 252)) none none ⟨.leaf, 0⟩ = some (.str [d.b0, d.b1, d.b2, d.b3]),
  IV.int .u32 (stp (stp (stp (stp 0 d.b0) d.b1) d.b2) d.b3) = .int .u32 d.N,
  sliceI tab 9 (.str d.s) none (some (.int .i64 252)) none ⟨.leaf, 0⟩ = some (.str (d.s.take 252)),
  ∀ hh, ClEq Tryd.prog (.func (.func 15) [] []) [.str (d.s.take 252)] hh (.int .u32 (ad (d.s.take 252))) hh,
  IV.bool ((d.N : Int) == (ad (d.s.take 252) : Nat)) = .bool true,
  indexI tab 9 (.str d.s) (.int .i64 0) = some (.int .u8 d.k),
  IV.bool (decide ((d.k : Int) > 0)) = .bool true,
  indexI tab 9 (.str d.s) (.int .i64 1) = some (.int .u8 d.n),
  IV.int .i64 (IntKind.wrap .i64 (d.n : Int)) = .int .i64 d.n,
  IV.bool (decide ((d.n : Int) ≤ 240)) = .bool true,
  IV.int .i64 (IntKind.wrap .i64 (2 + (d.n : Int))) = .int .i64 (2 + d.n : Nat),
  sliceI tab 9 (.str d.s) (some (.int .i64 (2 + d.n : Nat))) (some (.int .i64 252)) none ⟨.leaf, 0⟩ = some (.str d.z),
  ∀ hh, hh.get 5 = some (.cells (sb d.z) 5, true) → ClEq Tryd.prog (.func (.func 29) [] []) [.slice 5 0 d.z.length (.soft 0), .str [0]] hh .nilslice hh,
  IV.int .i64 (IntKind.wrap .i64 ((d.z.length : Int) - 0)) = .int .i64 d.j,
  IV.bool ((d.j : Int) == (d.z.length : Nat)) = .bool true,
  IV.int .i64 (IntKind.wrap .i64 (2 + (d.n : Int))) = .int .i64 (2 + d.n : Nat),
  IV.int .i64 (IntKind.wrap .i64 (((2 + d.n : Nat) : Int) + (d.j : Int))) = .int .i64 (2 + d.n + d.j : Nat),
  indexI tab 9 (.str d.s) (.int .i64 0) = some (.int .u8 d.k),
  IV.int .i64 (IntKind.wrap .i64 (d.k : Int)) = .int .i64 d.k,
  IV.int .i64 (IntKind.wrap .i64 (2 + (d.n : Int))) = .int .i64 (2 + d.n : Nat),
  sliceI tab 9 (.str d.s) (some (.int .i64 2)) (some (.int .i64 (2 + d.n : Nat))) none ⟨.leaf, 0⟩ = some (.str d.body)]) := by kernel_rfl
end Go.Proofs.YtoimbaocmeolgaaDoor
