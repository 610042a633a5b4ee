/- What lay, Set and Drop do. -/
import Derived.Test.YtafolioeipfdpaaWBase
namespace Go.Proofs.Ytafolioeipfdpaa
open Go Sx Go.RowKit

/-! ### lay -/
def ocLay1 (j : Nat) (a : Nat → Int) (d x sv d' : Int) : Nat → Nat → Option It := fun f k => match f, k with
  | 18, 9 => some (.w (.int .i64 j))
  | 18, 12 => some (.o (.ptr 1 j))
  | 18, 15 => some (.o (.int .u16 (a j)))
  | 18, 17 => some (.w (.bool true))
  | 18, 1020 => some (.s (tc (upd a j x) d))
  | 18, 24 => some (.o (.int .u64 d))
  | 18, 26 => some (.w (.int .i64 j))
  | 18, 27 => some (.w (.int .i64 (j / 120 : Nat)))
  | 18, 28 => some (.o (.int .u64 sv))
  | 18, 29 => some (.w (.int .u64 d'))
  | 18, 1031 => some (.s (tc (upd a j x) d'))
  | _, _ => none

theorem lay1 (g0 : Option (Bx × Bool)) (a : Nat → Int) (d x sv d' : Int) (j : Nat) : pfR Try.prog tab (ocLay1 j a d x sv d') 50 18 [.ptr 1 0, .int .i64 ((j : Int) + 1), .int .u16 x] (hp g0 a d) =
  some (.tup [], hp g0 (upd a j x) d', [IV.int .i64 (IntKind.wrap .i64 ((j : Int) + 1 - 1)) = .int .i64 j,
   indexAddrI tab 38 (.ptr 1 0) (.int .i64 j) = some (.ptr 1 j),
   ldC false 1 (tc a d) j = some (.int .u16 (a j)),
   IV.bool (a j != x) = .bool true,
   stC 1 (tc a d) j (.int .u16 x) = some (tc (upd a j x) d),
   ldC false 1 (tc (upd a j x) d) 960 = some (.int .u64 d),
   IV.int .i64 (IntKind.wrap .i64 ((j : Int) + 1 - 1)) = .int .i64 j,
   IV.int .i64 (IntKind.wrap .i64 ((j : Int).tdiv 120)) = .int .i64 (j / 120 : Nat),
   binI tab .shl 39 (.tmp 0) (.tmp 0) (.int .u64 1) (.int .i64 (j / 120 : Nat)) = some (.int .u64 sv),
   IV.int .u64 (IntKind.wrap .u64 (BitVec.ofInt 64 d ||| BitVec.ofInt 64 sv).toNat) = .int .u64 d',
   stC 1 (tc (upd a j x) d) 960 (.int .u64 d') = some (tc (upd a j x) d')]) := by kernel_rfl

def ocLay2 (j : Nat) (a : Nat → Int) : Nat → Nat → Option It := fun f k => match f, k with
  | 18, 9 => some (.w (.int .i64 j))
  | 18, 12 => some (.o (.ptr 1 j))
  | 18, 15 => some (.o (.int .u16 (a j)))
  | 18, 17 => some (.w (.bool false))
  | _, _ => none

theorem lay2 (g0 : Option (Bx × Bool)) (a : Nat → Int) (d x : Int) (j : Nat) : pfR Try.prog tab (ocLay2 j a) 50 18 [.ptr 1 0, .int .i64 ((j : Int) + 1), .int .u16 x] (hp g0 a d) =
  some (.tup [], hp g0 a d, [IV.int .i64 (IntKind.wrap .i64 ((j : Int) + 1 - 1)) = .int .i64 j,
   indexAddrI tab 38 (.ptr 1 0) (.int .i64 j) = some (.ptr 1 j),
   ldC false 1 (tc a d) j = some (.int .u16 (a j)),
   IV.bool (a j != x) = .bool false]) := by kernel_rfl

theorem wj {j : Nat} (hj : j < 960) : IV.int .i64 (IntKind.wrap .i64 ((j : Int) + 1 - 1)) = .int .i64 j := by
  rw [wrap64 (by omega) (by omega), show (j : Int) + 1 - 1 = j by omega]
theorem ij {j : Nat} (hj : j < 960) : indexAddrI tab 38 (.ptr 1 0) (.int .i64 j) = some (.ptr 1 j) := by
  rw [ix_arr t38 t22 hj]; simp
theorem ld {a : Nat → Int} {d : Int} {j : Nat} (hj : j < 960) : ldC false 1 (tc a d) j = some (.int .u16 (a j)) := by
  simp only [ldC, cond_false]; exact tc_get hj
theorem st {a : Nat → Int} {d x : Int} {j : Nat} (hj : j < 960) : stC 1 (tc a d) j (.int .u16 x) = some (tc (upd a j x) d) := by
  unfold stC
  rw [show Nat.ble (j + 1) (tc a d).length = true by rw [tc_length]; exact Nat.ble_eq_true_of_le (by omega)]
  simp only [IV.cells, List.length_cons, List.length_nil, List.all_cons, List.all_nil, IV.one, Bool.and_true, Bool.and_self]
  rw [tc_set hj]
  rfl
theorem st_d {a : Nat → Int} {d x : Int} : stC 1 (tc a d) 960 (.int .u64 x) = some (tc a x) := by
  unfold stC
  rw [show Nat.ble (960 + 1) (tc a d).length = true by rw [tc_length]; rfl]
  simp only [IV.cells, List.length_cons, List.length_nil, List.all_cons, List.all_nil, IV.one, Bool.and_true, Bool.and_self]
  rw [tc_set_d]
  rfl

theorem lay_sp (g0 : Option (Bx × Bool)) (a : Nat → Int) (d x : Int) {j : Nat} (hj : j < 960) :
    ∃ d', SpEq Try.prog 18 [.ptr 1 0, .int .i64 ((j : Int) + 1), .int .u16 x] (hp g0 a d) (.tup []) (hp g0 (upd a j x) d') := by
  by_cases hx : a j = x
  · refine ⟨d, ?_⟩
    have : upd a j x = a := by
      funext i
      simp only [upd]
      split
      · next h => rw [h, hx]
      · rfl
    rw [this]
    exact Sp.px tab_ok mixed (lay2 g0 a d x j) ⟨wj hj, ij hj, ld hj, by simp [hx], trivial⟩
  · refine ⟨_, Sp.px tab_ok mixed (lay1 g0 a d x (IntKind.wrap .u64 (1 * 2 ^ (min ((j / 120 : Nat) : Int).toNat 64))) _ j) ⟨wj hj, ij hj, ld hj, by simp [hx], st hj, ?_, wj hj, ?_, ?_, rfl, st_d, trivial⟩⟩
    · simp only [ldC, cond_false]; exact tc_get_d
    · have : (j : Int).tdiv 120 = ((j / 120 : Nat) : Int) := by simp [Int.tdiv]
      rw [this, wrap64 (by omega) (by omega)]
    · simp only [binI, shiftI]
      rw [if_neg (by omega)]
      rfl

/-! ### Set -/
def ocSet (g0 : Option (Bx × Bool)) (j : Nat) (a : Nat → Int) (s d' : Int) : Nat → Nat → Option It := fun f k => match f, k with
  | 16, 4 => some (.w (.bool true))
  | 16, 7 => some (.w (.bool true))
  | 17, 4 => some (.w (.bool true))
  | 17, 7 => some (.w (.bool true))
  | 7, 22 => some (.w (.int .u16 s))
  | 7, 23 => some (.c (.tup []) (hp g0 (upd a j s) d'))
  | _, _ => none
theorem set1 (g0 : Option (Bx × Bool)) (a : Nat → Int) (d s d' : Int) (j : Nat) : pfR Try.prog tab (ocSet g0 j a s d') 80 7 [.ptr 1 0, .int .i64 ((j : Int) + 1), .int .i64 s] (hp g0 a d) =
  some (.int .i64 0, hp g0 (upd a j s) d', [IV.bool (decide ((j : Int) + 1 > 0)) = .bool true, IV.bool (decide ((j : Int) + 1 ≤ 960)) = .bool true,
   IV.bool (decide (s ≥ 2)) = .bool true, IV.bool (decide (s < 1024)) = .bool true, IV.int .u16 (IntKind.wrap .u16 s) = .int .u16 s,
   ClEq Try.prog (.func (.func 18) [] []) [.ptr 1 0, .int .i64 ((j : Int) + 1), .int .u16 s] (hp g0 a d) (.tup []) (hp g0 (upd a j s) d')]) := by kernel_rfl

theorem enters9 : Go.Proofs.Enters Try.prog 9 := Go.Proofs.enters_of Try.func9 (by kernel_rfl) rfl
theorem enters18 : Go.Proofs.Enters Try.prog 18 := Go.Proofs.enters_of Try.func18 (by kernel_rfl) rfl
theorem enters7 : Go.Proofs.Enters Try.prog 7 := Go.Proofs.enters_of Try.func7 (by kernel_rfl) rfl
theorem enters8 : Go.Proofs.Enters Try.prog 8 := Go.Proofs.enters_of Try.func8 (by kernel_rfl) rfl
theorem cl_of {f : Nat} {vs : List IV} {h : H} {v : IV} {h' : H} (he : Go.Proofs.Enters Try.prog f) (hs : SpEq Try.prog f vs h v h') : ClEq Try.prog (.func (.func f) [] []) vs h v h' :=
  Cl.of_sp (first := []) (cap := []) he (by rw [List.nil_append, List.append_nil]; exact hs)

theorem set_cl (g0 : Option (Bx × Bool)) (a : Nat → Int) (d s : Int) {j : Nat} (hj : j < 960) (h2 : 2 ≤ s) (h3 : s < 1024) :
    ∃ d', ClEq Try.prog (.func (.func 7) [] []) [.ptr 1 0, .int .i64 ((j : Int) + 1), .int .i64 s] (hp g0 a d) (.int .i64 0) (hp g0 (upd a j s) d') := by
  obtain ⟨d', hl⟩ := lay_sp g0 a d s hj
  refine ⟨d', cl_of enters7 (Sp.px tab_ok mixed (set1 g0 a d s d' j) ⟨?_, ?_, ?_, ?_, ?_, cl_of enters18 hl, trivial⟩)⟩
  · rw [decide_eq_true (by omega)]
  · rw [decide_eq_true (by omega)]
  · rw [decide_eq_true (by omega)]
  · rw [decide_eq_true (by omega)]
  · rw [show IntKind.wrap .u16 s = s % 65536 by simp [IntKind.wrap, IntKind.bits, IntKind.signed], show s % 65536 = s by omega]

/-! ### Drop -/
def ocDrop1 (g0 : Option (Bx × Bool)) (j : Nat) (a : Nat → Int) (d' : Int) : Nat → Nat → Option It := fun f k => match f, k with
  | 16, 4 => some (.w (.bool true))
  | 16, 7 => some (.w (.bool true))
  | 10, 14 => some (.w (.int .i64 j))
  | 10, 17 => some (.o (.ptr 1 j))
  | 10, 18 => some (.o (.int .u16 (a j)))
  | 10, 19 => some (.w (.int .i64 (a j)))
  | 8, 12 => some (.w (.bool false))
  | 8, 15 => some (.c (.tup []) (hp g0 (upd a j 0) d'))
  | _, _ => none
theorem drop1 (g0 : Option (Bx × Bool)) (a : Nat → Int) (d d' : Int) (j : Nat) : pfR Try.prog tab (ocDrop1 g0 j a d') 80 8 [.ptr 1 0, .int .i64 ((j : Int) + 1)] (hp g0 a d) =
  some (.int .i64 0, hp g0 (upd a j 0) d', [IV.bool (decide ((j : Int) + 1 > 0)) = .bool true, IV.bool (decide ((j : Int) + 1 ≤ 960)) = .bool true,
   IV.int .i64 (IntKind.wrap .i64 ((j : Int) + 1 - 1)) = .int .i64 j,
   indexAddrI tab 38 (.ptr 1 0) (.int .i64 j) = some (.ptr 1 j),
   ldC false 1 (tc a d) j = some (.int .u16 (a j)),
   IV.int .i64 (IntKind.wrap .i64 (a j)) = .int .i64 (a j),
   IV.bool (a j == 0) = .bool false,
   ClEq Try.prog (.func (.func 18) [] []) [.ptr 1 0, .int .i64 ((j : Int) + 1), .int .u16 0] (hp g0 a d) (.tup []) (hp g0 (upd a j 0) d')]) := by kernel_rfl
def ocDrop2 (j : Nat) (a : Nat → Int) : Nat → Nat → Option It := fun f k => match f, k with
  | 16, 4 => some (.w (.bool true))
  | 16, 7 => some (.w (.bool true))
  | 10, 14 => some (.w (.int .i64 j))
  | 10, 17 => some (.o (.ptr 1 j))
  | 10, 18 => some (.o (.int .u16 (a j)))
  | 10, 19 => some (.w (.int .i64 (a j)))
  | 8, 12 => some (.w (.bool true))
  | _, _ => none
theorem drop2 (g0 : Option (Bx × Bool)) (a : Nat → Int) (d : Int) (j : Nat) : pfR Try.prog tab (ocDrop2 j a) 80 8 [.ptr 1 0, .int .i64 ((j : Int) + 1)] (hp g0 a d) =
  some (.int .i64 13, hp g0 a d, [IV.bool (decide ((j : Int) + 1 > 0)) = .bool true, IV.bool (decide ((j : Int) + 1 ≤ 960)) = .bool true,
   IV.int .i64 (IntKind.wrap .i64 ((j : Int) + 1 - 1)) = .int .i64 j,
   indexAddrI tab 38 (.ptr 1 0) (.int .i64 j) = some (.ptr 1 j),
   ldC false 1 (tc a d) j = some (.int .u16 (a j)),
   IV.int .i64 (IntKind.wrap .i64 (a j)) = .int .i64 (a j),
   IV.bool (a j == 0) = .bool true]) := by kernel_rfl

theorem drop_cl (g0 : Option (Bx × Bool)) (a : Nat → Int) (d : Int) {j : Nat} (hj : j < 960) (h0 : a j ≠ 0) (hr : 0 ≤ a j ∧ a j < 65536) :
    ∃ d', ClEq Try.prog (.func (.func 8) [] []) [.ptr 1 0, .int .i64 ((j : Int) + 1)] (hp g0 a d) (.int .i64 0) (hp g0 (upd a j 0) d') := by
  obtain ⟨d', hl⟩ := lay_sp g0 a d 0 hj
  refine ⟨d', cl_of enters8 (Sp.px tab_ok mixed (drop1 g0 a d d' j) ⟨?_, ?_, wj hj, ij hj, ld hj, ?_, by simp [h0], cl_of enters18 hl, trivial⟩)⟩
  · rw [decide_eq_true (by omega)]
  · rw [decide_eq_true (by omega)]
  · rw [wrap64 (by omega) (by omega)]
theorem drop_cl0 (g0 : Option (Bx × Bool)) (a : Nat → Int) (d : Int) {j : Nat} (hj : j < 960) (h0 : a j = 0) :
    ClEq Try.prog (.func (.func 8) [] []) [.ptr 1 0, .int .i64 ((j : Int) + 1)] (hp g0 a d) (.int .i64 13) (hp g0 a d) := by
  refine cl_of enters8 (Sp.px tab_ok mixed (drop2 g0 a d j) ⟨?_, ?_, wj hj, ij hj, ld hj, ?_, by simp [h0], trivial⟩)
  · rw [decide_eq_true (by omega)]
  · rw [decide_eq_true (by omega)]
  · rw [wrap64 (by omega) (by omega)]
end Go.Proofs.Ytafolioeipfdpaa
