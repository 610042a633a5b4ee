/- The law CellOpens. -/
import Derived.Test.YtoimbaocmeolgaaDoorCAlike
import Derived.Test.YtoimbaocmeolgaaDoorCLawA
namespace Go.Proofs.YtoimbaocmeolgaaDoor
open Go Sx Go.RowKit

noncomputable def l4 : List Code := flat (bodyC Tryd.prog 4)
theorem l4_eq : flat (bodyC Tryd.prog 4) = l4.take 4 ++ l4.drop 4 := by kernel_rfl
def hZ (z : Nat) : H := hG.new (.cells (List.replicate z (.int .u8 0)) 5)
theorem hZ_kill (z : Nat) : (hZ z).kill 1 = hK := by kernel_rfl
def oc4 (s1 t1 : List UInt8) (z : Nat) : Nat → Nat → Option It := fun f t => match f, t with
  | 4, 7 => some (.w (.int .i64 s1.length))
  | 4, 8 => some (.o (.str s1))
  | 4, 12 => some (.w (.int .i64 t1.length))
  | 4, 13 => some (.o (.str t1))
  | 4, 17 => some (.w (.int .i64 z))
  | 4, 18 => some (.g (.slice 1 0 z (.hard z)) (hZ z))
  | 4, 19 => some (.g (.str (List.replicate z 0)) (hZ z))
  | 4, 20 => some (.o (.str (t1 ++ List.replicate z 0)))
  | _, _ => none
theorem pre4 (s s1 t1 : List UInt8) (z : Nat) : psR Tryd.prog tab (oc4 s1 t1 z) 50 4 none 35 (l4.take 4) (canon 35 (fun j => [IV.str s].getD j undefI) []) hG [0, 3] = some (.normal, [.str s1, .str (t1 ++ List.replicate z 0)], hZ z, [], [
  IV.int .i64 (if (300 : Int) < (s.length : Nat) then 300 else (s.length : Nat)) = .int .i64 s1.length,
  sliceI tab 9 (.str s) none (some (.int .i64 s1.length)) none ⟨.leaf, 0⟩ = some (.str s1),
  IV.int .i64 (if (252 : Int) < (s1.length : Nat) then 252 else (s1.length : Nat)) = .int .i64 t1.length,
  sliceI tab 9 (.str s1) none (some (.int .i64 t1.length)) none ⟨.leaf, 0⟩ = some (.str t1),
  IV.int .i64 (IntKind.wrap .i64 (252 - (t1.length : Int))) = .int .i64 z,
  makeSliceI tab 27 (.int .i64 z) (.int .i64 z) hG = some (.slice 1 0 z (.hard z), hZ z),
  convI tab 27 9 (.slice 1 0 z (.hard z)) (hZ z) = some (.str (List.replicate z 0), hZ z),
  binI tab .add 9 (.tmp 0) (.tmp 0) (.str t1) (.str (List.replicate z 0)) = some (.str (t1 ++ List.replicate z 0))]) := by kernel_rfl
def oc4b (T : List UInt8) : Nat → Nat → Option It := fun f t => match f, t with
  | 4, 22 => some (.c (.bool true) hK)
  | 4, 26 => some (.c (.int .u32 (ad T)) hK)
  | 4, 27 => some (.w (.int .u64 (ad T)))
  | 4, 28 => some (.c (.str (be (ad T) 4)) hK)
  | 4, 29 => some (.o (.str (T ++ be (ad T) 4)))
  | 4, 30 => some (.c (.bool true) hK)
  | 4, 33 => some (.c (.bool true) hK)
  | _, _ => none
theorem post4 (s1 T : List UInt8) (g : Nat → IV) : psR Tryd.prog tab (oc4b T) 50 4 none 35 (l4.drop 4) (canon 35 (ov [0, 3] [.str s1, .str T] g) []) hK [2] = some (.ret, [.bool true], hK, [], [
  ClEq Tryd.prog (.func (.func 10) [] []) [.str s1] hK (.bool true) hK,
  ClEq Tryd.prog (.func (.func 12) [] []) [.str T] hK (.int .u32 (ad T)) hK,
  IV.int .u64 (IntKind.wrap .u64 (ad T : Int)) = .int .u64 (ad T),
  ClEq Tryd.prog (.func (.func 11) [] []) [.int .u64 (ad T), .int .i64 4] hK (.str (be (ad T) 4)) hK,
  binI tab .add 9 (.tmp 0) (.tmp 0) (.str T) (.str (be (ad T) 4)) = some (.str (T ++ be (ad T) 4)),
  ClEq Tryd.prog (.func (.func 10) [] []) [.str (T ++ be (ad T) 4)] hK (.bool true) hK,
  ClEq Tryd.prog (.func (.func 9) [] []) [] hK (.bool true) hK]) := by kernel_rfl

theorem take_len (s : List UInt8) (n : Nat) : s.take (s.take n).length = s.take n := by
  rw [List.length_take]
  by_cases h : n ≤ s.length
  · rw [Nat.min_eq_left h]
  · rw [Nat.min_eq_right (by omega), List.take_of_length_le (Nat.le_refl _), List.take_of_length_le (by omega)]
theorem min_len (s : List UInt8) (n : Nat) : (if (n : Int) < (s.length : Nat) then (n : Int) else (s.length : Nat)) = ((s.take n).length : Nat) := by
  rw [List.length_take]; split <;> omega

theorem hG_one (i : Nat) (y : Bx × Bool) (h : hG.get i = some y) : i = 0 ∧ y = (.glob 0 109 3 37, false) := by
  rw [hG, globH_get] at h
  split at h
  · next h0 => exact ⟨h0, (Option.some.inj h).symm⟩
  · cases h

theorem opens_sp (s : List UInt8) : SpEq Tryd.prog 4 [.str s] hG (.bool true) hG := by
  refine Sp.forget rfl ?_
  refine Sp.of_ev tab_ok Tryd.func4 (c := bodyC Tryd.prog 4) (by kernel_rfl) (Nat.le_of_ble_eq_true rfl) ?_
  show Ev Tryd.prog none 35 (bodyC Tryd.prog 4) (BodyQ tab [.tmp 2] _) _ _
  refine Ev.of_flat l4_eq ?_
  have hl1 : (s.take 300).length ≤ 300 := by rw [List.length_take]; omega
  have hl2 : ((s.take 300).take 252).length ≤ 252 := by rw [List.length_take]; omega
  generalize hT : (s.take 300).take 252 ++ List.replicate (252 - ((s.take 300).take 252).length) 0 = T
  have hTl : T.length = 252 := by rw [← hT, List.length_append, List.length_replicate]; omega
  refine EvS.px tab_ok mixed (FrIs.start 35 _) (List.cons_ne_nil _ _) (pre4 s (s.take 300) ((s.take 300).take 252) (252 - ((s.take 300).take 252).length)) ⟨?_, ?_, ?_, ?_, ?_, mk_ok (by omega) hG, ?_, ?_, trivial⟩ fun fr g hf => ?_
  · exact congrArg (IV.int .i64) (min_len s 300)
  · rw [sl_str (by rw [List.length_take]; omega) _, take_len]
  · exact congrArg (IV.int .i64) (min_len (s.take 300) 252)
  · rw [sl_str (by rw [List.length_take]; omega) _, take_len]
  · rw [wrap64 (by omega) (by omega)]
    exact congrArg (IV.int .i64) (by omega)
  · refine conv_str (cs := List.replicate (252 - ((s.take 300).take 252).length) (.int .u8 0)) (e := 5) (wr := true) (by kernel_rfl) (by simp) ?_
    rw [List.drop_zero, List.take_of_length_le (by simp), sb_replicate]
  · simp only [binI, strBinI]
    rw [if_pos (by rw [List.length_replicate]; omega)]
  · rw [hT] at hf
    refine EvS.kill 1 (List.cons_ne_nil _ _) ?_
    rw [hZ_kill]
    refine EvS.pxEnd tab_ok mixed hf (List.cons_ne_nil _ _) (post4 (s.take 300) T g) ⟨alike_cl _, ref_of T (by omega) hK, r_w T, r_be T hK, ?_, alike_cl _, works_clK, trivial⟩ fun fr2 g2 hf2 => ?_
    · simp only [binI, strBinI]
      rw [if_pos (by rw [be_length]; omega)]
    · obtain ⟨q1, q2, q3, q4, q5, q6, q7⟩ := bodyQ_tmp (T := tab) (h := hK) (o := .ret) hf2 (by decide) (show ov [2] [IV.bool true] g2 2 = IV.bool true from rfl) (.inr rfl)
      refine ⟨q1, q2, q3, q4, q5, q6, fun i x hi => ?_⟩
      obtain ⟨rfl, rfl⟩ := hG_one i x hi
      rw [q7]; rfl
end Go.Proofs.YtoimbaocmeolgaaDoor
