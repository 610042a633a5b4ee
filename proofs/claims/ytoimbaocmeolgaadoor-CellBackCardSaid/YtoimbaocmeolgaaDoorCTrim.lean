/- What bytes.TrimLeft answers of bytes in a block of their own: what is behind the first noughts. -/
import Derived.Test.YtoimbaocmeolgaaDoorCWorks
namespace Go.Proofs.YtoimbaocmeolgaaDoor
open Go Sx Go.RowKit

noncomputable def l35 : List Code := flat (bodyC Tryd.prog 35)
theorem l35_eq : flat (bodyC Tryd.prog 35) = l35.take 1 ++ (.block 0 (.loop (loopAt l35 1)) :: l35.drop 2) := by kernel_rfl
def sl35 (b m j : Nat) : IV := .slice b j (m - j) (.soft j)
def tl35 (b m : Nat) : IV := .tail b (m - 1 + 1) (m - 1 + 1) 1
def oc35 (b j : Nat) (z : List UInt8) (gt eq : Bool) (nx : IV) : Nat → Nat → Option It := fun f t => match f, t with
  | 35, 7 => some (.w (.bool gt))
  | 35, 10 => some (.o (.ptr b j))
  | 35, 11 => some (.l (.int .u8 (z.getD j 0).toNat) (.cells (sb z) 5, true))
  | 35, 13 => some (.w (.bool eq))
  | 35, 16 => some (.o nx)
  | 35, 19 => some (.w (.bool false))
  | _, _ => none
theorem pre35 (b m : Nat) (hh : H) : psR Tryd.prog tab (fun _ _ => none) 50 35 none 21 (l35.take 1) (canon 21 (fun j => [IV.slice b 0 m (.soft 0), .int .u8 0].getD j undefI) []) hh [0, 1] =
  some (.normal, [sl35 b m 0, .int .u8 0], hh, [], []) := by kernel_rfl
theorem go35 (b m j : Nat) (z : List UInt8) (nx : IV) (g : Nat → IV) (hh : H) : pxR Tryd.prog tab (oc35 b j z true true nx) 50 35 none 21 (loopAt l35 1) (canon 21 (ov [0, 1] [sl35 b m j, .int .u8 0] g) []) hh [0, 1] =
  some (.normal, [nx, .int .u8 0], hh, [], [IV.bool (decide (((m - j : Nat) : Int) > 0)) = .bool true, indexAddrI tab 27 (sl35 b m j) (.int .i64 0) = some (.ptr b j), hh.get b = some (.cells (sb z) 5, true),
    ldX (.cells (sb z) 5, true) false 1 j = some (.int .u8 (z.getD j 0).toNat), IV.bool (((z.getD j 0).toNat : Int) == 0) = .bool true, sliceI tab 27 (sl35 b m j) (some (.int .i64 1)) none none hh = some nx]) := by kernel_rfl
theorem stop35 (b m j : Nat) (z : List UInt8) (nx : IV) (g : Nat → IV) (hh : H) : pxR Tryd.prog tab (oc35 b j z true false nx) 50 35 none 21 (loopAt l35 1) (canon 21 (ov [0, 1] [sl35 b m j, .int .u8 0] g) []) hh [0] =
  some (.exit 0, [sl35 b m j], hh, [], [IV.bool (decide (((m - j : Nat) : Int) > 0)) = .bool true, indexAddrI tab 27 (sl35 b m j) (.int .i64 0) = some (.ptr b j), hh.get b = some (.cells (sb z) 5, true),
    ldX (.cells (sb z) 5, true) false 1 j = some (.int .u8 (z.getD j 0).toNat), IV.bool (((z.getD j 0).toNat : Int) == 0) = .bool false]) := by kernel_rfl
theorem end35 (b m : Nat) (g : Nat → IV) (hh : H) : pxR Tryd.prog tab (fun _ _ => none) 50 35 none 21 (loopAt l35 1) (canon 21 (ov [0, 1] [tl35 b m, .int .u8 0] g) []) hh [0] =
  some (.exit 0, [tl35 b m], hh, [], []) := by kernel_rfl
theorem post35 (b m j : Nat) (z : List UInt8) (g : Nat → IV) (hh : H) : psR Tryd.prog tab (oc35 b j z true false .nilslice) 50 35 none 21 (l35.drop 2) (canon 21 (ov [0] [sl35 b m j] g) []) hh [4] =
  some (.ret, [sl35 b m j], hh, [], [IV.bool (((m - j : Nat) : Int) == 0) = .bool false]) := by kernel_rfl
theorem postE35 (b m : Nat) (g : Nat → IV) (hh : H) : psR Tryd.prog tab (fun _ _ => none) 50 35 none 21 (l35.drop 2) (canon 21 (ov [0] [tl35 b m] g) []) hh [4] =
  some (.ret, [.nilslice], hh, [], []) := by kernel_rfl

theorem sb_length (z : List UInt8) : (sb z).length = z.length := by simp [sb]
theorem nx35 {b j : Nat} {z : List UInt8} {hh : H} (hg : hh.get b = some (.cells (sb z) 5, true)) (hj : j < z.length) :
    sliceI tab 27 (sl35 b z.length j) (some (.int .i64 1)) none none hh = some (if j + 1 < z.length then sl35 b z.length (j + 1) else tl35 b z.length) := by
  have h1 := t27d
  have h2 := t5s
  unfold sliceI sl35
  cases ht : tab.get 27 with
  | none => rw [ht] at h1; cases h1
  | some ty =>
    cases he : tab.get 5 with
    | none => rw [he] at h2; cases h2
    | some et =>
      rw [ht] at h1; rw [he] at h2
      simp only [Option.map_some, Option.some.injEq] at h1 h2
      have b1 : boundI (some (IV.int .i64 1)) 0 = some 1 := rfl
      have b2 : boundI none (z.length - j) = some (z.length - j) := rfl
      simp only [h1, he, b1, b2, hg, h2, sb_length]
      rw [show (Nat.ble 1 (z.length - j) && Nat.ble 1 1 && Nat.beq 5 5 && Nat.ble ((j + (z.length - j)) * 1) z.length) = true by
        simp only [Bool.and_eq_true]
        exact ⟨⟨⟨Nat.ble_eq_true_of_le (by omega), rfl⟩, rfl⟩, Nat.ble_eq_true_of_le (by omega)⟩]
      simp only [cond_true]
      by_cases h : j + 1 < z.length
      · rw [if_pos h, show Nat.ble ((j + 1 + 1) * 1) z.length = true from Nat.ble_eq_true_of_le (by omega)]
        simp only [cond_true, Nat.mul_one, Nat.sub_sub]
      · rw [if_neg h, show Nat.ble ((j + 1 + 1) * 1) z.length = false by
          cases hb : Nat.ble ((j + 1 + 1) * 1) z.length with
          | false => rfl
          | true => have := Nat.le_of_ble_eq_true hb; omega, show Nat.beq 1 (z.length - j) = true by rw [show z.length - j = 1 by omega]; rfl]
        simp only [cond_false, cond_true, tl35]
        rw [show z.length - 1 + 1 = j + 1 * 1 by omega]

theorem ldx35 {z : List UInt8} {j : Nat} (hj : j < z.length) : ldX (.cells (sb z) 5, true) false 1 j = some (.int .u8 (z.getD j 0).toNat) := sb_ld hj
theorem ix35 {b m j : Nat} (hj : j < m) : indexAddrI tab 27 (sl35 b m j) (.int .i64 0) = some (.ptr b j) := by
  have := ix_sl (T := tab) (t := 27) (b := b) (o := j) (len := m - j) (c := .soft j) (k := .i64) (i := 0) t27d t5s (by omega)
  simpa [sl35] using this
theorem u8z {z : List UInt8} {j : Nat} (h : z.getD j 0 = 0) : IV.bool (((z.getD j 0).toNat : Int) == 0) = .bool true := by rw [h]; rfl
theorem beqz {n : Int} (h : n ≠ 0) : (n == 0) = false := by
  rw [beq_eq_false_iff_ne]; exact h
theorem u8nz {z : List UInt8} {j : Nat} (h : z.getD j 0 ≠ 0) : IV.bool (((z.getD j 0).toNat : Int) == 0) = .bool false := by
  have : (z.getD j 0).toNat ≠ 0 := fun e => h (UInt8.toNat_inj.1 e)
  rw [beqz (by omega)]

/-- What is behind the noughts: from place j0 on; or nothing (j0 is the length). -/
def trimV (b m j0 : Nat) : IV := if j0 < m then sl35 b m j0 else .nilslice

theorem trim35 {b : Nat} {z : List UInt8} (hh : H) (hg : hh.get b = some (.cells (sb z) 5, true)) (hz : 0 < z.length) {j0 : Nat} (hj0 : j0 ≤ z.length) (h0 : ∀ j, j < j0 → z.getD j 0 = 0) (hn : j0 < z.length → z.getD j0 0 ≠ 0) :
    SpEq Tryd.prog 35 [.slice b 0 z.length (.soft 0), .int .u8 0] hh (trimV b z.length j0) hh := by
  refine Sp.of_ev tab_ok Tryd.func35 (c := bodyC Tryd.prog 35) (by kernel_rfl) (Nat.le_of_ble_eq_true rfl) ?_
  show Ev Tryd.prog none 21 (bodyC Tryd.prog 35) (BodyQ tab [.tmp 4] _) _ _
  refine Ev.of_flat l35_eq ?_
  refine EvS.px tab_ok mixed (FrIs.start 21 _) (by simp) (pre35 b z.length hh) trivial fun fr g hf => ?_
  refine EvS.loop (fun m fr h2 => h2 = hh ∧ ∃ j, j ≤ j0 ∧ m = j0 - j ∧ ∃ g, FrIs 21 fr (ov [0, 1] [if j < z.length then sl35 b z.length j else tl35 b z.length, .int .u8 0] g) []) j0 ⟨rfl, 0, by omega, by omega, g, by rw [if_pos hz]; exact hf⟩ ?_
  rintro m fr h2 ⟨rfl, j, hj, rfl, g, hf⟩
  by_cases hjm : j < z.length
  · rw [if_pos hjm] at hf
    by_cases hlt : j < j0
    · refine Ev.px tab_ok mixed hf (go35 b z.length j z _ g h2) ⟨by rw [decide_eq_true (by omega)], ix35 hjm, hg, ldx35 hjm, u8z (h0 j hlt), nx35 hg hjm, trivial⟩ fun fr' g' hf' => ?_
      exact ⟨j0 - (j + 1), by omega, rfl, j + 1, by omega, rfl, g', hf'⟩
    · obtain rfl : j = j0 := by omega
      refine Ev.px tab_ok mixed hf (stop35 b z.length j z .nilslice g h2) ⟨by rw [decide_eq_true (by omega)], ix35 hjm, hg, ldx35 hjm, u8nz (hn hjm), trivial⟩ fun fr' g' hf' => RoundEnds.out ?_
      refine EvS.pxEnd tab_ok mixed hf' (List.cons_ne_nil _ _) (post35 b z.length j z g' h2) ⟨?_, trivial⟩ fun fr2 g2 hf2 => bodyQ_tmp hf2 (by decide) (by unfold trimV; rw [if_pos hjm]; rfl) (.inr rfl)
      rw [beqz (by omega)]
  · rw [if_neg hjm] at hf
    obtain rfl : j = j0 := by omega
    refine Ev.px tab_ok mixed hf (end35 b z.length g h2) trivial fun fr' g' hf' => RoundEnds.out ?_
    exact EvS.pxEnd tab_ok mixed hf' (List.cons_ne_nil _ _) (postE35 b z.length g' h2) trivial fun fr2 g2 hf2 => bodyQ_tmp hf2 (by decide) (by unfold trimV; rw [if_neg hjm]; rfl) (.inr rfl)

def oc29 (v : IV) (hh : H) : Nat → Nat → Option It := fun f t => match f, t with
  | 29, 9 => some (.w (.bool false))
  | 29, 24 => some (.c v hh)
  | _, _ => none
theorem run29 (b m : Nat) (v : IV) (hh : H) : pfR Tryd.prog tab (oc29 v hh) 50 29 [.slice b 0 m (.soft 0), .str [0]] hh =
  some (v, hh, [IV.bool ((m : Int) == 0) = .bool false, ClEq Tryd.prog (.func (.func 35) [] []) [.slice b 0 m (.soft 0), .int .u8 0] hh v hh]) := by kernel_rfl
theorem enters35 : Go.Proofs.Enters Tryd.prog 35 := Go.Proofs.enters_of Tryd.func35 (by kernel_rfl) rfl
theorem enters29 : Go.Proofs.Enters Tryd.prog 29 := Go.Proofs.enters_of Tryd.func29 (by kernel_rfl) rfl
theorem trim_cl {b : Nat} {z : List UInt8} (hh : H) (hg : hh.get b = some (.cells (sb z) 5, true)) (hz : 0 < z.length) {j0 : Nat} (hj0 : j0 ≤ z.length) (h0 : ∀ j, j < j0 → z.getD j 0 = 0) (hn : j0 < z.length → z.getD j0 0 ≠ 0) :
    ClEq Tryd.prog (.func (.func 29) [] []) [.slice b 0 z.length (.soft 0), .str [0]] hh (trimV b z.length j0) hh := by
  refine cl_of enters29 (Sp.px tab_ok mixed (run29 b z.length _ hh) ⟨?_, cl_of enters35 (trim35 hh hg hz hj0 h0 hn), trivial⟩)
  rw [beqz (by omega)]
end Go.Proofs.YtoimbaocmeolgaaDoor
