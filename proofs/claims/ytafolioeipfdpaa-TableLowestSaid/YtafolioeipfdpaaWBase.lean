/- The table of the types, the heap that the law works on. -/
import Derived.Test.YtafolioeipfdpaaChecked
import Derived.KernelRfl
import Derived.Test.YtafolioeipfdpaaSxSym
namespace Go.Proofs.Ytafolioeipfdpaa
open Go Sx Go.RowKit
noncomputable def tab : Tr Ty := tabF Try.prog 120
theorem tab_ok : TabOK Try.prog tab := tabOK _ _
theorem mixed : Try.prog.follows .mixedOrders = true := by kernel_rfl

/-- The table's cells: each page's sector, and the dirty chunks. -/
def tc (a : Nat → Int) (d : Int) : List IV := ((List.range 960).map fun j => .int .u16 (a j)) ++ [.int .u64 d]
def hp (g0 : Option (Bx × Bool)) (a : Nat → Int) (d : Int) : H := ⟨.node (.node .leaf .leaf (some (.cells (tc a d) 41, true))) .leaf g0, 2⟩
def h00 (g0 : Option (Bx × Bool)) : H := ⟨.node .leaf .leaf g0, 1⟩
def upd (a : Nat → Int) (j : Nat) (x : Int) : Nat → Int := fun i => if i = j then x else a i

theorem tc_length (a : Nat → Int) (d : Int) : (tc a d).length = 961 := by simp [tc]
theorem tc_get {a : Nat → Int} {d : Int} {j : Nat} (h : j < 960) : (tc a d)[j]? = some (.int .u16 (a j)) := by
  unfold tc
  rw [List.getElem?_append_left (by simpa using h)]
  simp [h]
theorem tc_get_d {a : Nat → Int} {d : Int} : (tc a d)[960]? = some (.int .u64 d) := by
  unfold tc
  rw [List.getElem?_append_right (by simp)]
  simp
theorem splice_one (l : List IV) (j : Nat) (v : IV) : splice l j [v] = l.set j v := by simp [splice]
theorem tc_set {a : Nat → Int} {d x : Int} {j : Nat} (h : j < 960) : splice (tc a d) j [.int .u16 x] = tc (upd a j x) d := by
  rw [splice_one]
  apply List.ext_getElem?
  intro i
  rw [List.getElem?_set]
  by_cases hi : j = i
  · subst hi
    rw [if_pos rfl, if_pos (by rw [tc_length]; omega), tc_get h]
    simp [upd]
  · rw [if_neg hi]
    by_cases h2 : i < 960
    · rw [tc_get h2, tc_get h2]
      have : ¬ i = j := fun e => hi e.symm
      simp [upd, this]
    · by_cases h3 : i = 960
      · subst h3; rw [tc_get_d, tc_get_d]
      · rw [List.getElem?_eq_none (by rw [tc_length]; omega), List.getElem?_eq_none (by rw [tc_length]; omega)]
theorem tc_set_d {a : Nat → Int} {d x : Int} : splice (tc a d) 960 [.int .u64 x] = tc a x := by
  rw [splice_one]
  unfold tc
  rw [List.set_append_right _ _ (by simp)]
  simp

theorem ix_arr {T : Tr Ty} {t e : TypeId} {n s b o : Nat} {k : IntKind} {i : Nat} (h1 : (T.get t).map Ty.d = some (.array n e)) (h2 : (T.get e).map Ty.size = some s) (hi : i < n) :
    indexAddrI T t (.ptr b o) (.int k (i : Int)) = some (.ptr b (o + i * s)) := by
  unfold indexAddrI
  cases ht : T.get t with
  | none => rw [ht] at h1; cases h1
  | some ty =>
    cases he : T.get e with
    | none => rw [he] at h2; cases h2
    | some et =>
      rw [ht] at h1; rw [he] at h2
      simp only [Option.map_some, Option.some.injEq] at h1 h2
      simp only [h1, he, h2]
      rw [if_pos (by omega)]
      simp
theorem ix_sl {T : Tr Ty} {t e : TypeId} {s b o len : Nat} {c : Cap} {k : IntKind} {i : Nat} (h1 : (T.get t).map Ty.d = some (.slice e)) (h2 : (T.get e).map Ty.size = some s) (hi : i < len) :
    indexAddrI T t (.slice b o len c) (.int k (i : Int)) = some (.ptr b (o + i * s)) := by
  unfold indexAddrI
  cases ht : T.get t with
  | none => rw [ht] at h1; cases h1
  | some ty =>
    cases he : T.get e with
    | none => rw [he] at h2; cases h2
    | some et =>
      rw [ht] at h1; rw [he] at h2
      simp only [Option.map_some, Option.some.injEq] at h1 h2
      simp only [h1, he, h2]
      rw [if_pos (by omega)]
      simp
theorem wrap64 {n : Int} (h0 : -9223372036854775808 ≤ n) (h1 : n ≤ 9223372036854775807) : IntKind.wrap .i64 n = n := wrap_i64_self n h0 h1
theorem t38 : (tab.get 38).map Ty.d = some (.array 960 22) := by kernel_rfl
theorem t22 : (tab.get 22).map Ty.size = some 1 := by kernel_rfl
theorem t23 : (tab.get 23).map Ty.d = some (.slice 22) := by kernel_rfl

end Go.Proofs.Ytafolioeipfdpaa
