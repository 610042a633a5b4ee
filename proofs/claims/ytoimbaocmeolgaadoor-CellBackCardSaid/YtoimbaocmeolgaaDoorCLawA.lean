/- The law CellSeals. -/
import Derived.Test.YtoimbaocmeolgaaDoorCWorks
namespace Go.Proofs.YtoimbaocmeolgaaDoor
open Go Sx Go.RowKit

def oc3 (body : List UInt8) (S : List UInt8) (e : Int) : Nat → Nat → Option It := fun f t => match f, t with
  | 3, 12 => some (.w (.int .i64 (body.take 300).length))
  | 3, 13 => some (.o (.str (body.take 300)))
  | 3, 17 => some (.c (.tup [.str S, .int .i64 e]) hG)
  | 3, 23 => some (.c (.tup [.str S, .int .i64 e]) hG)
  | 3, 28 => some (.w (.bool true))
  | 3, 32 => some (.w (.bool true))
  | 3, 35 => some (.c (.bool true) hG)
  | _, _ => none
theorem run3 (kind : Int) (body S : List UInt8) (e : Int) : pfR Tryd.prog tab (oc3 body S e) 60 3 [.int .i64 kind, .str body] hG = some (.bool true, hG,
  [IV.int .i64 (if (300 : Int) < (body.length : Nat) then 300 else (body.length : Nat)) = .int .i64 (body.take 300).length,
   sliceI tab 9 (.str body) none (some (.int .i64 (body.take 300).length)) none E0 = some (.str (body.take 300)),
   ClEq Tryd.prog (.func (.func 7) [] []) [.int .i64 kind, .str (body.take 300)] hG (.tup [.str S, .int .i64 e]) hG,
   ClEq Tryd.prog (.func (.func 8) [] []) [.int .i64 kind, .str (body.take 300)] hG (.tup [.str S, .int .i64 e]) hG,
   IV.bool (S == S) = .bool true, IV.bool (e == e) = .bool true,
   ClEq Tryd.prog (.func (.func 9) [] []) [] hG (.bool true) hG]) := by kernel_rfl

theorem sl_str {s : List UInt8} {n : Nat} (h : n ≤ s.length) (hh : H) : sliceI tab 9 (.str s) none (some (.int .i64 n)) none hh = some (.str (s.take n)) := by
  have h1 := t9d
  unfold sliceI
  cases ht : tab.get 9 with
  | none => rw [ht] at h1; cases h1
  | some ty =>
    rw [ht] at h1
    simp only [Option.map_some, Option.some.injEq] at h1
    simp only [h1, boundI]
    rw [if_pos (by omega)]
    simp only [Int.toNat_natCast]
    rw [show (Nat.ble 0 n && Nat.ble n s.length) = true by simp [Nat.ble_eq, h]]
    simp

theorem sealV_tup (kind : Int) (body : List UInt8) : ∃ S e, sealV kind body = .tup [.str S, .int .i64 e] := by
  unfold sealV
  split
  · exact ⟨_, _, rfl⟩
  · split <;> exact ⟨_, _, rfl⟩

theorem seals_sp (kind : Int) (body : List UInt8) : SpEq Tryd.prog 3 [.int .i64 kind, .str body] hG (.bool true) hG := by
  obtain ⟨S, e, hv⟩ := sealV_tup kind (body.take 300)
  have hl : (body.take 300).length = min 300 body.length := List.length_take
  refine Sp.px tab_ok mixed (run3 kind body S e) ⟨?_, ?_, ?_, ?_, by simp, by simp, works_cl, trivial⟩
  · rw [hl]
    congr 1
    split <;> omega
  · have h2 : body.take (body.take 300).length = body.take 300 := by
      rw [hl]
      by_cases h : 300 ≤ body.length
      · rw [Nat.min_eq_left h]
      · rw [Nat.min_eq_right (by omega), List.take_of_length_le (Nat.le_refl _), List.take_of_length_le (by omega)]
    rw [sl_str (by omega) E0, h2]
  · rw [← hv]; exact seal_prog kind _ (by omega) hG
  · rw [← hv]; exact seal_ref kind _ (by omega) hG
end Go.Proofs.YtoimbaocmeolgaaDoor
