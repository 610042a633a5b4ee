/- The table of the types, and small laws on it; the seats of a hall. -/
import Derived.Test.YtjhgomacanffkaaSxBig
import Derived.Test.YtjhgomacanffkaaRows
namespace Go.Proofs.Ytjhgomacanffkaa
open Go Sx Go.RowKit
noncomputable def tab : Tr Ty := tabF Try.prog 104
theorem tab_ok : TabOK Try.prog tab := tabOK _ _
theorem mixed : Try.prog.follows .mixedOrders = true := by kernel_rfl

theorem ix_arr {T : Tr Ty} {t e : TypeId} {n s b o : Nat} {k : IntKind} {i : Nat} (h1 : (T.get t).map Ty.d = some (.array n e)) (h2 : (T.get e).map Ty.size = some s) (hi : i < n) :
    indexAddrI T t (.ptr b o) (.int k (i : Int)) = some (.ptr b (o + i * s)) := by
  unfold indexAddrI
  cases ht : T.get t with
  | none => rw [ht] at h1; cases h1
  | some ty =>
    cases he : T.get e with
    | none => rw [he] at h2; cases h2
    | some et =>
      rw [ht] at h1; rw [he] at h2
      simp only [Option.map_some, Option.some.injEq] at h1 h2
      simp only [h1, he, h2]
      rw [if_pos (by omega)]
      simp
theorem ix_sl {T : Tr Ty} {t e : TypeId} {s b o len : Nat} {c : Cap} {k : IntKind} {i : Nat} (h1 : (T.get t).map Ty.d = some (.slice e)) (h2 : (T.get e).map Ty.size = some s) (hi : i < len) :
    indexAddrI T t (.slice b o len c) (.int k (i : Int)) = some (.ptr b (o + i * s)) := by
  unfold indexAddrI
  cases ht : T.get t with
  | none => rw [ht] at h1; cases h1
  | some ty =>
    cases he : T.get e with
    | none => rw [he] at h2; cases h2
    | some et =>
      rw [ht] at h1; rw [he] at h2
      simp only [Option.map_some, Option.some.injEq] at h1 h2
      simp only [h1, he, h2]
      rw [if_pos (by omega)]
      simp
theorem wrap64 {n : Int} (h0 : -9223372036854775808 ≤ n) (h1 : n ≤ 9223372036854775807) : IntKind.wrap .i64 n = n := wrap_i64_self n h0 h1
theorem t22d : (tab.get 22).map Ty.d = some (.slice 39) := by kernel_rfl
theorem t39s : (tab.get 39).map Ty.size = some 2 := by kernel_rfl
theorem t25d : (tab.get 25).map Ty.d = some (.array 64 4) := by kernel_rfl
theorem t4s : (tab.get 4).map Ty.size = some 1 := by kernel_rfl
theorem t27d : (tab.get 27).map Ty.d = some (.slice 3) := by kernel_rfl
theorem t3s : (tab.get 3).map Ty.size = some 1 := by kernel_rfl
theorem t53d : (tab.get 53).map Ty.d = some (.slice 26) := by kernel_rfl
theorem t26s : (tab.get 26).map Ty.size = some 2 := by kernel_rfl
theorem t26d : (tab.get 26).map Ty.d = some (.array 2 3) := by kernel_rfl

theorem vF_is {n : Nat} {F : Nat → IV} : ∀ (ps : List Nat) (vs : List IV) (tm : Tm), ps.length = vs.length → (∀ j, j < n → tm.tmp j = F j) → ps.Nodup → FrIs n ⟨setParams tm ps vs, []⟩ (ov ps vs F) []
  | [], [], tm, _, h, _ => ⟨rfl, fun j hj => h j hj⟩
  | p :: ps, v :: vs, tm, hl, h, hd => by
    have hd' := List.nodup_cons.1 hd
    have key : ∀ (ps : List Nat) (vs : List IV) (tm tm' : Tm) (j : Nat), ps.length = vs.length → j ∉ ps → tm.tmp j = tm'.tmp j → (setParams tm ps vs).tmp j = tm'.tmp j := by
      intro ps
      induction ps with
      | nil => intro vs tm tm' j hl _ h; cases vs with
        | nil => exact h
        | cons _ _ => simp at hl
      | cons q ps ih => intro vs tm tm' j hl hj h; cases vs with
        | nil => simp at hl
        | cons u vs =>
          simp only [setParams]
          refine ih vs _ _ j (by simpa using hl) (fun hm => hj (List.mem_cons_of_mem _ hm)) ?_
          rw [tmp_set, if_neg (fun e => hj (by simp [e]))]
          exact h
    have ih := vF_is (n := n) (F := F) ps vs tm (by simpa using hl) h hd'.2
    refine ⟨rfl, fun j hj => ?_⟩
    simp only [ov, setParams]
    cases hb : Nat.beq j p with
    | true =>
      have e := Nat.eq_of_beq_eq_true hb
      subst e
      simp only [cond_true]
      rw [key ps vs _ (tm.set j (some v)) j (by simpa using hl) hd'.1 rfl, tmp_set, if_pos rfl]
    | false =>
      simp only [cond_false]
      rw [← ih.2 j hj]
      have hne : j ≠ p := fun e => by rw [e] at hb; simp at hb
      have key2 : ∀ (ps : List Nat) (vs : List IV) (a b : Tm) (j : Nat), a.tmp j = b.tmp j → (setParams a ps vs).tmp j = (setParams b ps vs).tmp j := by
        intro ps
        induction ps with
        | nil => intro vs a b j h; cases vs <;> exact h
        | cons q ps ih => intro vs a b j h; cases vs with
          | nil => exact h
          | cons u vs =>
            simp only [setParams]
            refine ih vs _ _ j ?_
            rw [tmp_set, tmp_set]
            split
            · rfl
            · exact h
      exact key2 ps vs _ _ j (by rw [tmp_set, if_neg (fun e => hne e.symm)])
  | [], _ :: _, _, hl, _, _ => by simp at hl
  | _ :: _, [], _, hl, _, _ => by simp at hl

def ints (l : List Int) : List IV := l.map (.int .i64)
theorem ints_length (l : List Int) : (ints l).length = l.length := by simp [ints]
theorem denL_ints (E : Env) (l : List Int) : denL E (ints l) = l.map (Value.int .i64) := by
  rw [denL_eq, ints, List.map_map]; rfl
theorem flat_ints : ∀ (l : List Int), flatL (ints l) = true
  | [] => rfl
  | a :: l => by
    have := flat_ints l
    simp only [ints, List.map_cons, flatL, IV.flat, Bool.true_and] at this ⊢
    exact this


/-! ### The seats of rows -/
def bit (m : Int) (p : Nat) : Bool := decide (m.toNat / 2 ^ p % 2 = 1)
def rowS (i : Nat) (r : Int × Int) : Nat → Nat → List (Nat × Int)
  | 0, _ => []
  | k + 1, p => (if bit r.2 p then [(8 * i + p, r.1)] else []) ++ rowS i r k (p + 1)
def allS : List (Int × Int) → Nat → List (Nat × Int)
  | [], _ => []
  | r :: rs, i => rowS i r 8 0 ++ allS rs (i + 1)

theorem bit_le {m : Int} (h0 : 0 ≤ m) (h1 : m < 256) : m.toNat < 256 := by omega
end Go.Proofs.Ytjhgomacanffkaa
