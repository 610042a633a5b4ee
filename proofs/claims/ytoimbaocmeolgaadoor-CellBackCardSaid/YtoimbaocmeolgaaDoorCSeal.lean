/- What the program's Seal and the reference's answer: the same. -/
import Derived.Test.YtoimbaocmeolgaaDoorCBytes
namespace Go.Proofs.YtoimbaocmeolgaaDoor
open Go Sx Go.RowKit

/-- A sector ahead of its sum. -/
def pre (k : Nat) (body : List UInt8) : List UInt8 := [UInt8.ofNat k, UInt8.ofNat body.length] ++ body ++ List.replicate (250 - body.length) 0
def sealed (k : Nat) (body : List UInt8) : List UInt8 := pre k body ++ be (ad (pre k body)) 4
theorem pre_length (k : Nat) {body : List UInt8} (h : body.length ≤ 240) : (pre k body).length = 252 := by simp [pre]; omega

/-! ### The reference's -/
def oc8 (kind : Int) (body : List UInt8) (low high long : Bool) (h : H) : Nat → Nat → Option It := fun f t => match f, t with
  | 8, 8 => some (.w (.bool low))
  | 8, 11 => some (.w (.bool high))
  | 8, 15 => some (.w (.bool long))
  | 8, 17 => some (.w (.int .u8 kind))
  | 8, 20 => some (.w (.int .u8 (body.length : Nat)))
  | 8, 22 => some (.w (.str [UInt8.ofNat kind.toNat, UInt8.ofNat body.length]))
  | 8, 24 => some (.o (.str ([UInt8.ofNat kind.toNat, UInt8.ofNat body.length] ++ body)))
  | 8, 28 => some (.w (.int .i64 (250 - body.length : Nat)))
  | 8, 29 => some (.g (.slice 1 0 (250 - body.length) (.hard (250 - body.length))) h)
  | 8, 30 => some (.g (.str (List.replicate (250 - body.length) 0)) h)
  | 8, 31 => some (.o (.str (pre kind.toNat body)))
  | 8, 34 => some (.p (.int .u32 (ad (pre kind.toNat body))))
  | 8, 35 => some (.w (.int .u64 (ad (pre kind.toNat body))))
  | 8, 36 => some (.p (.str (be (ad (pre kind.toNat body)) 4)))
  | 8, 37 => some (.o (.str (sealed kind.toNat body)))
  | _, _ => none
def hR0 (kind : Int) (m : Nat) : H := E0.new (.cells [.int .u8 kind, .int .u8 m] 5)
def hR1 (kind : Int) (m z : Nat) : H := (hR0 kind m).new (.cells (List.replicate z (.int .u8 0)) 5)
theorem run8low (kind : Int) (body : List UInt8) : pfV Tryd.prog tab (oc8 kind body true false false E0) 60 8 [.int .i64 kind, .str body] = some (.tup [.str [], .int .i64 6], [IV.bool (decide (kind < 1)) = .bool true]) := by kernel_rfl
theorem run8high (kind : Int) (body : List UInt8) : pfV Tryd.prog tab (oc8 kind body false true false E0) 60 8 [.int .i64 kind, .str body] = some (.tup [.str [], .int .i64 6], [IV.bool (decide (kind < 1)) = .bool false, IV.bool (decide (kind > 255)) = .bool true]) := by kernel_rfl
theorem run8long (kind : Int) (body : List UInt8) : pfV Tryd.prog tab (oc8 kind body false false true E0) 60 8 [.int .i64 kind, .str body] = some (.tup [.str [], .int .i64 4], [IV.bool (decide (kind < 1)) = .bool false, IV.bool (decide (kind > 255)) = .bool false,
  IV.bool (decide ((body.length : Int) > 240)) = .bool true]) := by kernel_rfl
theorem run8 (kind : Int) (body : List UInt8) : pfV Tryd.prog tab (oc8 kind body false false false (hR1 kind body.length (250 - body.length))) 60 8 [.int .i64 kind, .str body] = some (.tup [.str (sealed kind.toNat body), .int .i64 0],
  [IV.bool (decide (kind < 1)) = .bool false, IV.bool (decide (kind > 255)) = .bool false, IV.bool (decide ((body.length : Int) > 240)) = .bool false,
   IV.int .u8 (IntKind.wrap .u8 kind) = .int .u8 kind, IV.int .u8 (IntKind.wrap .u8 (body.length : Int)) = .int .u8 (body.length : Nat),
   IV.str [UInt8.ofNat kind.toNat, UInt8.ofNat ((body.length : Nat) : Int).toNat] = .str [UInt8.ofNat kind.toNat, UInt8.ofNat body.length],
   binI tab .add 9 (.tmp 0) (.tmp 0) (.str [UInt8.ofNat kind.toNat, UInt8.ofNat body.length]) (.str body) = some (.str ([UInt8.ofNat kind.toNat, UInt8.ofNat body.length] ++ body)),
   IV.int .i64 (IntKind.wrap .i64 (252 - ((([UInt8.ofNat kind.toNat, UInt8.ofNat body.length] ++ body).length : Nat) : Int))) = .int .i64 (250 - body.length : Nat),
   makeSliceI tab 27 (.int .i64 (250 - body.length : Nat)) (.int .i64 (250 - body.length : Nat)) (hR0 kind body.length) = some (.slice 1 0 (250 - body.length) (.hard (250 - body.length)), hR1 kind body.length (250 - body.length)),
   convI tab 27 9 (.slice 1 0 (250 - body.length) (.hard (250 - body.length))) (hR1 kind body.length (250 - body.length)) = some (.str (List.replicate (250 - body.length) 0), hR1 kind body.length (250 - body.length)),
   binI tab .add 9 (.tmp 0) (.tmp 0) (.str ([UInt8.ofNat kind.toNat, UInt8.ofNat body.length] ++ body)) (.str (List.replicate (250 - body.length) 0)) = some (.str (pre kind.toNat body)),
   ∀ hh, ClEq Tryd.prog (.func (.func 12) [] []) [.str (pre kind.toNat body)] hh (.int .u32 (ad (pre kind.toNat body))) hh,
   IV.int .u64 (IntKind.wrap .u64 (ad (pre kind.toNat body) : Int)) = .int .u64 (ad (pre kind.toNat body)),
   ∀ hh, ClEq Tryd.prog (.func (.func 11) [] []) [.int .u64 (ad (pre kind.toNat body)), .int .i64 4] hh (.str (be (ad (pre kind.toNat body)) 4)) hh,
   binI tab .add 9 (.tmp 0) (.tmp 0) (.str (pre kind.toNat body)) (.str (be (ad (pre kind.toNat body)) 4)) = some (.str (sealed kind.toNat body))]) := by kernel_rfl

/-! ### The program's -/
def cel (c : Nat → UInt8) : List IV := (List.range 256).map fun j => .int .u8 ((c j).toNat : Nat)
def cOf (l : List UInt8) (j : Nat) : UInt8 := l.getD j 0
def hS0 (kind : Int) (m : Nat) : H := E0.new (.cells ([.int .u8 kind, .int .u8 m] ++ List.replicate 254 (.int .u8 0)) 46)
def hS1 (l : List UInt8) : H := E0.new (.cells (cel (cOf l)) 46)
def oc7 (kind : Int) (body : List UInt8) (low high long : Bool) (h : H) : Nat → Nat → Option It := fun f t => match f, t with
  | 7, 9 => some (.w (.bool low))
  | 7, 12 => some (.w (.bool high))
  | 7, 17 => some (.w (.bool long))
  | 7, 19 => some (.w (.int .u8 kind))
  | 7, 22 => some (.w (.int .u8 (body.length : Nat)))
  | 7, 27 => some (.g (.int .i64 (body.length : Nat)) h)
  | 7, 30 => some (.w (.str (pre kind.toNat body)))
  | 7, 31 => some (.p (.int .u32 (ad (pre kind.toNat body))))
  | 7, 33 => some (.w (.str (sealed kind.toNat body)))
  | _, _ => none
def by8 (n : Nat) (i : Int) : UInt8 := UInt8.ofNat (IntKind.wrap .u8 ((IntKind.wrap .u64 (n : Int)).fdiv (2 ^ (min (IntKind.wrap .i64 (8 * i)).toNat 64)))).toNat
theorem run7low (kind : Int) (body : List UInt8) : pfV Tryd.prog tab (oc7 kind body true false false E0) 60 7 [.int .i64 kind, .str body] = some (.tup [.str [], .int .i64 6], [IV.bool (decide (kind < 1)) = .bool true]) := by kernel_rfl
theorem run7high (kind : Int) (body : List UInt8) : pfV Tryd.prog tab (oc7 kind body false true false E0) 60 7 [.int .i64 kind, .str body] = some (.tup [.str [], .int .i64 6], [IV.bool (decide (kind < 1)) = .bool false, IV.bool (decide (kind > 255)) = .bool true]) := by kernel_rfl
theorem run7long (kind : Int) (body : List UInt8) : pfV Tryd.prog tab (oc7 kind body false false true E0) 60 7 [.int .i64 kind, .str body] = some (.tup [.str [], .int .i64 4], [IV.bool (decide (kind < 1)) = .bool false, IV.bool (decide (kind > 255)) = .bool false,
  IV.bool (decide ((body.length : Int) > 240)) = .bool true]) := by kernel_rfl
theorem run7 (kind : Int) (body : List UInt8) : pfV Tryd.prog tab (oc7 kind body false false false (hS1 (pre kind.toNat body))) 60 7 [.int .i64 kind, .str body] = some (.tup [.str (sealed kind.toNat body), .int .i64 0],
  [IV.bool (decide (kind < 1)) = .bool false, IV.bool (decide (kind > 255)) = .bool false, IV.bool (decide ((body.length : Int) > 240)) = .bool false,
   IV.int .u8 (IntKind.wrap .u8 kind) = .int .u8 kind, IV.int .u8 (IntKind.wrap .u8 (body.length : Int)) = .int .u8 (body.length : Nat),
   builtinI tab .copy [27, 9] [.slice 0 2 254 (.hard 254), .str body] (hS0 kind body.length) = some (.int .i64 (body.length : Nat), hS1 (pre kind.toNat body)),
   IV.str ((List.range 252).map fun j => UInt8.ofNat ((cOf (pre kind.toNat body) j).toNat : Int).toNat) = .str (pre kind.toNat body),
   ∀ hh, ClEq Tryd.prog (.func (.func 15) [] []) [.str (pre kind.toNat body)] hh (.int .u32 (ad (pre kind.toNat body))) hh,
   IV.str (((List.range 252).map fun j => UInt8.ofNat ((cOf (pre kind.toNat body) j).toNat : Int).toNat) ++ [by8 (ad (pre kind.toNat body)) 3, by8 (ad (pre kind.toNat body)) 2, by8 (ad (pre kind.toNat body)) 1, by8 (ad (pre kind.toNat body)) 0]) = .str (sealed kind.toNat body)]) := by kernel_rfl
end Go.Proofs.YtoimbaocmeolgaaDoor
