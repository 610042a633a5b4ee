/- What the reference's Bytes answers: a number's lowest bytes, the greatest one first. -/
import Derived.Test.YtoimbaocmeolgaaDoorCMore
namespace Go.Proofs.YtoimbaocmeolgaaDoor
open Go Sx Go.RowKit

def be (n : Nat) : Nat → List UInt8
  | 0 => []
  | k + 1 => be (n / 256) k ++ [UInt8.ofNat (n % 256)]
theorem be_length (n k : Nat) : (be n k).length = k := by
  induction k generalizing n with
  | zero => rfl
  | succ k ih => simp [be, ih]

def oc11 (n k : Nat) (zero : Bool) : Nat → Nat → Option It := fun f t => match f, t with
  | 11, 6 => some (.w (.bool zero))
  | 11, 8 => some (.w (.int .u64 (n / 256 : Nat)))
  | 11, 10 => some (.w (.int .i64 (k : Nat)))
  | 11, 11 => some (.p (.str (be (n / 256) k)))
  | 11, 13 => some (.w (.int .u64 (n % 256 : Nat)))
  | 11, 14 => some (.w (.int .u8 (n % 256 : Nat)))
  | 11, 16 => some (.w (.str [UInt8.ofNat (n % 256)]))
  | 11, 17 => some (.o (.str (be n (k + 1))))
  | _, _ => none
theorem run11z (n : Nat) : pfV Tryd.prog tab (oc11 n 0 true) 50 11 [.int .u64 n, .int .i64 (0 : Nat)] = some (.str [], [IV.bool (((0 : Nat) : Int) == 0) = .bool true]) := by kernel_rfl
theorem run11 (n k : Nat) : pfV Tryd.prog tab (oc11 n k false) 50 11 [.int .u64 n, .int .i64 ((k + 1 : Nat) : Int)] = some (.str (be n (k + 1)), [IV.bool (((k + 1 : Nat) : Int) == 0) = .bool false,
    IV.int .u64 (IntKind.wrap .u64 ((n : Int).tdiv 256)) = .int .u64 (n / 256 : Nat), IV.int .i64 (IntKind.wrap .i64 (((k + 1 : Nat) : Int) - 1)) = .int .i64 k,
    ∀ hh, ClEq Tryd.prog (.func (.func 11) [] []) [.int .u64 (n / 256 : Nat), .int .i64 k] hh (.str (be (n / 256) k)) hh,
    IV.int .u64 ((n : Int).tmod 256) = .int .u64 (n % 256 : Nat), IV.int .u8 (IntKind.wrap .u8 ((n % 256 : Nat) : Int)) = .int .u8 (n % 256 : Nat),
    IV.str [UInt8.ofNat ((n % 256 : Nat) : Int).toNat] = .str [UInt8.ofNat (n % 256)],
    binI tab .add 9 (.tmp 0) (.tmp 0) (.str (be (n / 256) k)) (.str [UInt8.ofNat (n % 256)]) = some (.str (be n (k + 1)))]) := by kernel_rfl
theorem enters11 : Go.Proofs.Enters Tryd.prog 11 := Go.Proofs.enters_of Tryd.func11 (by kernel_rfl) rfl

theorem bytes_of : ∀ (k n : Nat), k < 1000 → n < 18446744073709551616 → ∀ h, ClEq Tryd.prog (.func (.func 11) [] []) [.int .u64 n, .int .i64 k] h (.str (be n k)) h
  | 0, n, _, hn, h => cl_of enters11 (Sp.anyH enters11 rfl rfl rfl (Sp.pxV tab_ok mixed rfl (run11z n) ⟨rfl, trivial⟩) h)
  | k + 1, n, hk, hn, h => by
    have ih := bytes_of k (n / 256) (by omega) (by omega)
    refine cl_of enters11 (Sp.anyH enters11 rfl rfl rfl (Sp.pxV tab_ok mixed rfl (run11 n k) ⟨?_, ?_, ?_, ih, ?_, ?_, rfl, ?_, trivial⟩) h)
    · congr 1
    · rw [show (n : Int).tdiv 256 = ((n / 256 : Nat) : Int) by simp [Int.tdiv], show IntKind.wrap .u64 ((n / 256 : Nat) : Int) = ((n / 256 : Nat) : Int) % 18446744073709551616 by simp [IntKind.wrap, IntKind.bits, IntKind.signed]]
      congr 1; omega
    · rw [wrap64 (by omega) (by omega)]; congr 1; omega
    · rw [show (256 : Int) = ((256 : Nat) : Int) from rfl, tmod_nat]
    · rw [show IntKind.wrap .u8 ((n % 256 : Nat) : Int) = ((n % 256 : Nat) : Int) % 256 by simp [IntKind.wrap, IntKind.bits, IntKind.signed]]
      congr 1; omega
    · simp only [binI, strBinI]
      rw [if_pos (by simp [be_length]; omega)]
      rfl
end Go.Proofs.YtoimbaocmeolgaaDoor
