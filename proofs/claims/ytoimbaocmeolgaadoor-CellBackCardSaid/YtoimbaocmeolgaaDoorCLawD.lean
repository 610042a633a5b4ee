/- The law CellBack: the conditions of its runs, shown. -/
import Derived.Test.YtoimbaocmeolgaaDoorCLawC
namespace Go.Proofs.YtoimbaocmeolgaaDoor
open Go Sx Go.RowKit

theorem AllP.join : ∀ {a b : List Prop}, AllP a → AllP b → AllP (a ++ b)
  | [], _, _, hb => hb
  | _ :: _, _, ha, hb => ⟨ha.1, AllP.join ha.2 hb⟩

theorem glob_hB1 (d : BD) : (hB1 d).get 0 = some (.glob 0 109 3 37, false) := by kernel_rfl
theorem glob_hB3 (d : BD) : (hB3 d).get 0 = some (.glob 0 109 3 37, false) := by kernel_rfl

theorem xor_u8 (x y : UInt8) : IV.int .u8 (IntKind.wrap .u8 (BitVec.ofInt 8 (x.toNat : Int) ^^^ BitVec.ofInt 8 (y.toNat : Int)).toNat) = .int .u8 ((x ^^^ y).toNat : Nat) := by
  have hx := x.toNat_lt; have hy := y.toNat_lt
  have e : (BitVec.ofInt 8 (x.toNat : Int) ^^^ BitVec.ofInt 8 (y.toNat : Int)).toNat = (x ^^^ y).toNat := by
    rw [BitVec.toNat_xor, BitVec.ofInt_natCast, BitVec.ofInt_natCast, BitVec.toNat_ofNat, BitVec.toNat_ofNat, Nat.mod_eq_of_lt (by omega), Nat.mod_eq_of_lt (by omega), UInt8.toNat_xor]
  rw [e]
  have := (x ^^^ y).toNat_lt
  rw [wrapu8 (by omega) (by omega)]
theorem xor_ne {x y : UInt8} (h : y ≠ 0) : x ^^^ y ≠ x := by
  intro e
  have h1 : x ^^^ (x ^^^ y) = x ^^^ x := by rw [e]
  rw [← UInt8.xor_assoc, UInt8.xor_self, UInt8.zero_xor] at h1
  exact h h1

theorem sb_set (s : List UInt8) (i : Nat) (c : UInt8) : (sb s).set i (.int .u8 (c.toNat : Nat)) = sb (s.set i c) := by
  simp [sb, List.map_set]
theorem st_sb {s : List UInt8} {i : Nat} (hi : i < s.length) (c : UInt8) : stC 1 (sb s) i (.int .u8 (c.toNat : Nat)) = some (sb (s.set i c)) := by
  unfold stC
  rw [show Nat.ble (i + 1) (sb s).length = true by rw [sb_length]; exact Nat.ble_eq_true_of_le (by omega)]
  simp only [IV.cells, List.length_cons, List.length_nil, List.all_cons, List.all_nil, IV.one, Bool.and_true, Bool.and_self]
  rw [show splice (sb s) i [IV.int .u8 (c.toNat : Nat)] = (sb s).set i (.int .u8 (c.toNat : Nat)) by simp [splice], sb_set]
  rfl

theorem back_sp (kind a : Nat) (body other : List UInt8) (by' : UInt8) (hk : kind < 256) (ha : a < 65536) : SpEq Tryd.prog 5 [.int .u8 kind, .str body, .agg [.int .u16 a, .int .u8 (by'.toNat : Nat), .str other]] hG (.bool true) hG := by
  have hbl : (body.take 240).length ≤ 240 := by rw [List.length_take]; omega
  have hsl := sealed_length (kind % 255 + 1) hbl
  have hix : a % 256 < (sealed (kind % 255 + 1) (body.take 240)).length := by rw [hsl]; omega
  let d : BD := ⟨kind, kind % 255, body, body.take 240, sealed (kind % 255 + 1) (body.take 240), a, by', a % 256, (sealed (kind % 255 + 1) (body.take 240)).getD (a % 256) 0 ^^^ by', other, other.take 300⟩
  have hseal : ∀ (k : Nat) (b : List UInt8), 0 < k → k < 256 → b.length ≤ 240 → ∀ hh, ClEq Tryd.prog (.func (.func 7) [] []) [.int .i64 k, .str b] hh (.tup [.str (sealed k b), .int .i64 0]) hh := by
    intro k b h0 h1 h2 hh
    have := seal_prog (k : Int) b (by omega) hh
    unfold sealV at this
    rw [if_neg (by omega), if_neg (by omega)] at this
    simpa using this
  have hixa : indexAddrI tab 27 (.slice 2 0 (sealed (kind % 255 + 1) (body.take 240)).length (.soft 0)) (.int .i64 (a % 256 : Nat)) = some (.ptr 2 (a % 256)) := by
    rw [ix_sl t27d t5s hix]; simp
  have hA : AllP (obA d) := by
    refine ⟨works_any (glob_hB1 d), ?_, ?_, ?_, ?_, ?_, hseal (kind % 255 + 1) _ (by omega) (by omega) hbl, back_opens (k := kind % 255 + 1) ⟨by omega, by omega⟩ hbl, ?_, ?_, ?_, ?_, hixa, sb_ld hix, xor_u8 _ _, hixa, st_sb hix _, trivial⟩
    · show IV.int .i64 (IntKind.wrap .i64 (kind : Int)) = .int .i64 kind
      rw [wrap64 (by omega) (by omega)]
    · exact congrArg (IV.int .i64) (tmod_nat kind 255)
    · show IV.int .i64 (IntKind.wrap .i64 (1 + ((kind % 255 : Nat) : Int))) = .int .i64 ((kind % 255 + 1 : Nat) : Int)
      rw [wrap64 (by omega) (by omega)]
      exact congrArg (IV.int .i64) (by omega)
    · exact congrArg (IV.int .i64) (min_len body 240)
    · show sliceI tab 9 (.str body) none (some (.int .i64 (body.take 240).length)) none ⟨.leaf, 0⟩ = some (.str (body.take 240))
      rw [sl_str (by rw [List.length_take]; omega) _, take_len]
    · simp
    · simp
    · show IV.int .i64 (IntKind.wrap .i64 (a : Int)) = .int .i64 a
      rw [wrap64 (by omega) (by omega)]
    · exact congrArg (IV.int .i64) (tmod_nat a 256)
  have hO : AllP (obO d) := by
    refine ⟨?_, ?_, trivial⟩
    · exact congrArg (IV.int .i64) (min_len other 300)
    · show sliceI tab 9 (.str other) none (some (.int .i64 (other.take 300).length)) none ⟨.leaf, 0⟩ = some (.str (other.take 300))
      rw [sl_str (by rw [List.length_take]; omega) _, take_len]
  have hN : by' ≠ 0 → AllP (obN d) := fun hne => by
    refine ⟨?_, ?_, fails_cl (turn_tells hbl (i := a % 256) (by omega) (xor_ne hne)) (glob_hB3 d), trivial⟩
    · show IV.bool ((by'.toNat : Int) != 0) = .bool true
      have : by'.toNat ≠ 0 := fun e => hne (UInt8.toNat_inj.1 e)
      rw [neqz (by omega)]
    · refine conv_str (h := hB3 d) (cs := sb (d.S.set d.ix d.c)) (e := 5) (wr := true) (by kernel_rfl) ?_ ?_
      · rw [sb_length, List.length_set]; omega
      · rw [List.drop_zero, List.take_of_length_le (by rw [sb_length, List.length_set]; exact Nat.le_refl _)]
  have hZ : by' = 0 → AllP (obZ d) := fun he => by
    refine ⟨?_, trivial⟩
    show IV.bool ((by'.toNat : Int) != 0) = .bool false
    rw [he]; rfl
  rcases open_seals (other.take 300) with ⟨code, at', ht⟩ | ⟨k, b, ho, h0, h1, h2, hs⟩
  · have hT : ClEq Tryd.prog (.func (.func 13) [] []) [.str d.odd] (hB3 d) (flt 3) (hB4 d code at') := ht (hB3 d)
    by_cases hb : by' = 0
    · exact Sp.pxG tab_ok mixed rfl hG_one (run5Zf d code at') (AllP.join (AllP.join (AllP.join hA (hZ hb)) hO) ⟨hT, trivial⟩)
    · exact Sp.pxG tab_ok mixed rfl hG_one (run5Nf d code at') (AllP.join (AllP.join (AllP.join hA (hN hb)) hO) ⟨hT, trivial⟩)
  · have hS : AllP (obS d k b) := by
      refine ⟨ho (hB3 d), fun hh => ?_, by simp, trivial⟩
      have := hseal k b h0 h1 h2 hh
      rw [hs] at this
      exact this
    by_cases hb : by' = 0
    · exact Sp.pxG tab_ok mixed rfl hG_one (run5Zo d k b) (AllP.join (AllP.join (AllP.join hA (hZ hb)) hO) hS)
    · exact Sp.pxG tab_ok mixed rfl hG_one (run5No d k b) (AllP.join (AllP.join (AllP.join hA (hN hb)) hO) hS)
end Go.Proofs.YtoimbaocmeolgaaDoor
