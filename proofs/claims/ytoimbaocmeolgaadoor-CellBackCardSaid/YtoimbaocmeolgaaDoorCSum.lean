/- What the two sums answer: the reference's and the program's are one number (of up to 2048 bytes). -/
import Derived.Test.YtoimbaocmeolgaaDoorSxSymb
import Derived.Test.YtoimbaocmeolgaaDoorBase
namespace Go.Proofs.YtoimbaocmeolgaaDoor
open Go Sx Go.RowKit

def lo (s : List UInt8) : Nat → Nat
  | 0 => 1
  | i + 1 => lo s i + (s.getD i 0).toNat
def hi (s : List UInt8) : Nat → Nat
  | 0 => 0
  | i + 1 => hi s i + lo s (i + 1)
def ad (s : List UInt8) : Nat := (hi s s.length % 65521) * 65536 + lo s s.length % 65521

theorem lo_le (s : List UInt8) : ∀ i, lo s i ≤ 1 + 255 * i
  | 0 => by simp [lo]
  | i + 1 => by
    have := lo_le s i
    have := (s.getD i 0).toNat_lt
    simp only [lo]; omega
theorem hi_le (s : List UInt8) : ∀ i, i ≤ 2048 → hi s i ≤ i * 522241
  | 0, _ => by simp [hi]
  | i + 1, h => by
    have := hi_le s i (by omega)
    have := lo_le s (i + 1)
    simp only [hi]; omega
theorem ad_lt (s : List UInt8) : ad s < 4294967296 := by unfold ad; omega

theorem wrapu32 {n : Int} (h0 : 0 ≤ n) (h1 : n < 4294967296) : IntKind.wrap .u32 n = n := by
  rw [show IntKind.wrap .u32 n = n % 4294967296 by simp [IntKind.wrap, IntKind.bits, IntKind.signed]]; omega
theorem wrap64 {n : Int} (h0 : -9223372036854775808 ≤ n) (h1 : n ≤ 9223372036854775807) : IntKind.wrap .i64 n = n := wrap_i64_self n h0 h1
theorem w_inc {k : Nat} (h : k < 4611686018427387904) : IV.int .i64 (IntKind.wrap .i64 ((k : Int) + 1)) = .int .i64 ((k + 1 : Nat) : Int) := by
  rw [wrap64 (by omega) (by omega)]; simp
theorem tmod_nat (a b : Nat) : ((a : Int)).tmod (b : Int) = ((a % b : Nat) : Int) := by
  rw [Int.tmod_eq_emod_of_nonneg (by omega)]; omega
theorem u8lt (s : List UInt8) (i : Nat) : (s.getD i 0).toNat < 256 := (s.getD i 0).toNat_lt

theorem ix_str {s : List UInt8} {i : Nat} (h : i < s.length) : indexI tab 9 (.str s) (.int .i64 i) = some (.int .u8 (s.getD i 0).toNat) := by
  have h1 : (tab.get 9).map Ty.d = some .string := by kernel_rfl
  unfold indexI
  cases ht : tab.get 9 with
  | none => rw [ht] at h1; cases h1
  | some ty =>
    rw [ht] at h1
    simp only [Option.map_some, Option.some.injEq] at h1
    simp only [h1]
    rw [if_pos (by omega)]
    simp [h, List.getD_eq_getElem?_getD]

theorem cl_of {f : Nat} {vs : List IV} {h : H} {v : IV} {h' : H} (he : Go.Proofs.Enters Tryd.prog f) (hs : SpEq Tryd.prog f vs h v h') : ClEq Tryd.prog (.func (.func f) [] []) vs h v h' :=
  Cl.of_sp (first := []) (cap := []) he (by rw [List.nil_append, List.append_nil]; exact hs)

/-! ### The reference's -/
noncomputable def l19 : List Code := flat (bodyC Tryd.prog 19)
theorem l19_eq : flat (bodyC Tryd.prog 19) = l19.take 3 ++ (.block 0 (.loop (loopAt l19 3)) :: l19.drop 4) := by kernel_rfl
theorem pre19 (s : List UInt8) (h : H) : psR Tryd.prog tab (fun _ _ => none) 50 19 none 35 (l19.take 3) (canon 35 (fun j => [IV.int .u32 1, .str s].getD j undefI) []) h [1, 5, 6, 7] =
  some (.normal, [.str s, .int .u32 ((1 % 65521 : Nat) : Int), .int .u32 ((0 % 65521 : Nat) : Int), .int .i64 ((0 : Nat) : Int)], h, [], []) := by kernel_rfl
def oc19 (s : List UInt8) (i : Nat) (lt : Bool) : Nat → Nat → Option It := fun f t => match f, t with
  | 19, 17 => some (.w (.bool lt))
  | 19, 23 => some (.o (.int .u8 (s.getD i 0).toNat))
  | 19, 24 => some (.w (.int .u32 (s.getD i 0).toNat))
  | 19, 25 => some (.w (.int .u32 ((lo s i % 65521 + (s.getD i 0).toNat : Nat) : Int)))
  | 19, 26 => some (.w (.int .u32 ((lo s (i + 1) % 65521 : Nat) : Int)))
  | 19, 29 => some (.w (.int .u32 ((hi s i % 65521 + lo s (i + 1) % 65521 : Nat) : Int)))
  | 19, 30 => some (.w (.int .u32 ((hi s (i + 1) % 65521 : Nat) : Int)))
  | 19, 19 => some (.w (.int .i64 ((i + 1 : Nat) : Int)))
  | _, _ => none
def lv19 (s : List UInt8) (i : Nat) : List IV := [.str s, .int .u32 ((lo s i % 65521 : Nat) : Int), .int .u32 ((hi s i % 65521 : Nat) : Int), .int .i64 (i : Nat)]
theorem go19 (s : List UInt8) (i : Nat) (g : Nat → IV) (h : H) : pxR Tryd.prog tab (oc19 s i true) 50 19 none 35 (loopAt l19 3) (canon 35 (ov [1, 5, 6, 7] (lv19 s i) g) []) h [1, 5, 6, 7] =
  some (.normal, lv19 s (i + 1), h, [], [IV.bool (decide ((i : Int) < (s.length : Nat))) = .bool true, indexI tab 9 (.str s) (.int .i64 i) = some (.int .u8 (s.getD i 0).toNat),
    IV.int .u32 (IntKind.wrap .u32 ((s.getD i 0).toNat : Int)) = .int .u32 (s.getD i 0).toNat,
    IV.int .u32 (IntKind.wrap .u32 (((lo s i % 65521 : Nat) : Int) + ((s.getD i 0).toNat : Int))) = .int .u32 ((lo s i % 65521 + (s.getD i 0).toNat : Nat) : Int),
    IV.int .u32 (((lo s i % 65521 + (s.getD i 0).toNat : Nat) : Int).tmod 65521) = .int .u32 ((lo s (i + 1) % 65521 : Nat) : Int),
    IV.int .u32 (IntKind.wrap .u32 (((hi s i % 65521 : Nat) : Int) + ((lo s (i + 1) % 65521 : Nat) : Int))) = .int .u32 ((hi s i % 65521 + lo s (i + 1) % 65521 : Nat) : Int),
    IV.int .u32 (((hi s i % 65521 + lo s (i + 1) % 65521 : Nat) : Int).tmod 65521) = .int .u32 ((hi s (i + 1) % 65521 : Nat) : Int),
    IV.int .i64 (IntKind.wrap .i64 ((i : Int) + 1)) = .int .i64 ((i + 1 : Nat) : Int)]) := by kernel_rfl
theorem end19 (s : List UInt8) (i : Nat) (g : Nat → IV) (h : H) : pxR Tryd.prog tab (oc19 s i false) 50 19 none 35 (loopAt l19 3) (canon 35 (ov [1, 5, 6, 7] (lv19 s i) g) []) h [1, 5, 6, 7] =
  some (.exit 0, lv19 s i, h, [], [IV.bool (decide ((i : Int) < (s.length : Nat))) = .bool false]) := by kernel_rfl
def oc19e (s : List UInt8) (i : Nat) : Nat → Nat → Option It := fun f t => match f, t with
  | 19, 32 => some (.w (.int .u32 ((hi s i % 65521 * 65536 : Nat) : Int)))
  | 19, 34 => some (.w (.int .u32 ((hi s i % 65521 * 65536 + lo s i % 65521 : Nat) : Int)))
  | _, _ => none
theorem post19 (s : List UInt8) (i : Nat) (g : Nat → IV) (h : H) : psR Tryd.prog tab (oc19e s i) 50 19 none 35 (l19.drop 4) (canon 35 (ov [1, 5, 6, 7] (lv19 s i) g) []) h [4] =
  some (.ret, [.int .u32 ((hi s i % 65521 * 65536 + lo s i % 65521 : Nat) : Int)], h, [], [IV.int .u32 (IntKind.wrap .u32 (((hi s i % 65521 : Nat) : Int) * 65536)) = .int .u32 ((hi s i % 65521 * 65536 : Nat) : Int),
    IV.int .u32 (IntKind.wrap .u32 (((hi s i % 65521 * 65536 : Nat) : Int) + ((lo s i % 65521 : Nat) : Int))) = .int .u32 ((hi s i % 65521 * 65536 + lo s i % 65521 : Nat) : Int)]) := by kernel_rfl

theorem ref_more (s : List UInt8) (hs : s.length < 4611686018427387904) (h : H) : SpEq Tryd.prog 19 [.int .u32 1, .str s] h (.int .u32 (ad s)) h := by
  refine Sp.of_ev tab_ok Tryd.func19 (c := bodyC Tryd.prog 19) (by kernel_rfl) (Nat.le_of_ble_eq_true rfl) ?_
  show Ev Tryd.prog none 35 (bodyC Tryd.prog 19) (BodyQ tab [.tmp 4] _) _ _
  refine Ev.of_flat l19_eq ?_
  refine EvS.px tab_ok mixed (FrIs.start 35 _) (by simp) (pre19 s h) trivial fun fr g hf => ?_
  refine EvS.loop (fun m fr h2 => h2 = h ∧ ∃ i, i ≤ s.length ∧ m = s.length - i ∧ ∃ g, FrIs 35 fr (ov [1, 5, 6, 7] (lv19 s i) g) []) s.length ⟨rfl, 0, by omega, by omega, g, hf⟩ ?_
  rintro m fr h2 ⟨rfl, i, hi1, rfl, g, hf⟩
  have hc := u8lt s i
  by_cases hlt : i < s.length
  · refine Ev.px tab_ok mixed hf (go19 s i g h2) ⟨by rw [decide_eq_true (by omega)], ix_str hlt, by rw [wrapu32 (by omega) (by omega)], ?_, ?_, ?_, ?_, w_inc (by omega), trivial⟩ fun fr' g' hf' => ?_
    · rw [wrapu32 (by omega) (by omega), Int.natCast_add]
    · rw [show (65521 : Int) = ((65521 : Nat) : Int) from rfl, tmod_nat, Nat.mod_add_mod]; rfl
    · rw [wrapu32 (by omega) (by omega), Int.natCast_add]
    · rw [show (65521 : Int) = ((65521 : Nat) : Int) from rfl, tmod_nat, ← Nat.add_mod]; rfl
    · exact ⟨s.length - (i + 1), by omega, rfl, i + 1, by omega, rfl, g', hf'⟩
  · obtain rfl : i = s.length := by omega
    refine Ev.px tab_ok mixed hf (end19 s _ g h2) ⟨by rw [decide_eq_false (by omega)], trivial⟩ fun fr' g' hf' => RoundEnds.out ?_
    refine EvS.pxEnd tab_ok mixed hf' (List.cons_ne_nil _ _) (post19 s _ g' h2) ⟨?_, ?_, trivial⟩ fun fr2 g2 hf2 => bodyQ_tmp hf2 (by decide) rfl (.inr rfl)
    · rw [wrapu32 (by omega) (by omega), Int.natCast_mul]; rfl
    · rw [wrapu32 (by omega) (by omega), Int.natCast_add]
theorem enters19 : Go.Proofs.Enters Tryd.prog 19 := Go.Proofs.enters_of Tryd.func19 (by kernel_rfl) rfl
theorem enters12 : Go.Proofs.Enters Tryd.prog 12 := Go.Proofs.enters_of Tryd.func12 (by kernel_rfl) rfl
theorem of12 (s : List UInt8) (n : Nat) (h : H) : pfR Tryd.prog tab (fun f t => match f, t with | 12, 4 => some (.c (.int .u32 n) h) | _, _ => none) 50 12 [.str s] h =
  some (.int .u32 n, h, [ClEq Tryd.prog (.func (.func 19) [] []) [.int .u32 1, .str s] h (.int .u32 n) h]) := by kernel_rfl
theorem ref_of (s : List UInt8) (hs : s.length < 4611686018427387904) (h : H) : ClEq Tryd.prog (.func (.func 12) [] []) [.str s] h (.int .u32 (ad s)) h :=
  cl_of enters12 (Sp.px tab_ok mixed (of12 s (ad s) h) ⟨cl_of enters19 (ref_more s hs h), trivial⟩)
end Go.Proofs.YtoimbaocmeolgaaDoor
