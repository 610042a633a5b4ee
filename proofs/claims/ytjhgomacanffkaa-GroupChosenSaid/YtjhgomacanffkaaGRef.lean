/- The reference's functions as contracts. -/
import Derived.Test.YtjhgomacanffkaaGParts
import Derived.Test.YtjhgomacanffkaaGGrows
namespace Go.Proofs.Ytjhgomacanffkaa
open Go Sx Go.RowKit
-- STOPS tkL, nints, hvS, slV, boxH

theorem enters54 : Go.Proofs.Enters Try.prog 54 := Go.Proofs.enters_of Try.func54 (by kernel_rfl) rfl
theorem enters47 : Go.Proofs.Enters Try.prog 47 := Go.Proofs.enters_of Try.func47 (by kernel_rfl) rfl
theorem enters33 : Go.Proofs.Enters Try.prog 33 := Go.Proofs.enters_of Try.func33 (by kernel_rfl) rfl
noncomputable def l54 : List Code := flat (bodyC Try.prog 54)
theorem l54_eq : flat (bodyC Try.prog 54) = l54.take 2 ++ (.block 0 (.loop (loopAt l54 2)) :: l54.drop 3) := by kernel_rfl

def oc54 (i m : Nat) (lt b : Bool) : Nat → Nat → Option It := fun f t => match f, t with
  | 54, 8 => some (.w (.bool lt))
  | 54, 12 => some (.w (.int .u8 ((m / 2 : Nat) : Int)))
  | 54, 10 => some (.w (.int .i64 ((i + 1 : Nat) : Int)))
  | 54, 14 => some (.w (.int .u8 ((m % 2 : Nat) : Int)))
  | 54, 15 => some (.w (.bool b))
  | _, _ => none
def oc47 (off s : Nat) (r2 : Int) (x : Bx) (lt b : Bool) : Nat → Nat → Option It := fun f t => match f, t with
  | 47, 6 => some (.w (.bool true))
  | 47, 9 => some (.w (.bool true))
  | 47, 13 => some (.w (.int .i64 ((s / 8 : Nat) : Int)))
  | 47, 17 => some (.w (.bool lt))
  | 47, 23 => some (.w (.int .i64 ((s / 8 : Nat) : Int)))
  | 47, 24 => some (.o (.ptr 0 (off + s / 8 * 2)))
  | 47, 26 => some (.l (.int .u8 r2) (x, false))
  | 47, 28 => some (.w (.int .i64 ((s % 8 : Nat) : Int)))
  | 47, 29 => some (.p (.bool b))
  | _, _ => none
def oc33 (off s : Nat) (r1 : Int) (x : Bx) (h : H) (hs : Bool) : Nat → Nat → Option It := fun f t => match f, t with
  | 33, 7 => some (.c (.bool hs) h)
  | 33, 12 => some (.w (.int .i64 ((s / 8 : Nat) : Int)))
  | 33, 13 => some (.o (.ptr 0 (off + s / 8 * 2)))
  | 33, 15 => some (.l (.int .i64 r1) (x, false))
  | _, _ => none
section
variable (h : H) (g : Nat → IV) (i m p s off n : Nat) (cp : Cap) (x : Bx) (r1 r2 : Int) (lt b hs : Bool)
theorem pre54 : psR Try.prog tab (oc54 i m true true) 50 54 none 16 (l54.take 2) (canon 16 (fun j => [IV.int .u8 (m : Nat), .int .i64 (p : Nat)].getD j undefI) []) h [0, 1, 5] =
  some (Out.normal, [IV.int .u8 (↑m : Int), IV.int .i64 (↑p : Int), IV.int .i64 0], h, [], []) := by kernel_rfl
def lv54 (m p i : Nat) : List IV := [.int .u8 (m : Nat), .int .i64 (p : Nat), .int .i64 (i : Nat)]
theorem r54_end : pxR Try.prog tab (oc54 i m false true) 50 54 none 16 (loopAt l54 2) (canon 16 (ov [0, 1, 5] (lv54 m p i) g) []) h [0] =
  some (Out.exit 0, [IV.int .u8 (↑m : Int)], h, [], [IV.bool (decide ((↑i : Int) < (↑p : Int))) = IV.bool false]) := by kernel_rfl
theorem r54_go : pxR Try.prog tab (oc54 i m true true) 50 54 none 16 (loopAt l54 2) (canon 16 (ov [0, 1, 5] (lv54 m p i) g) []) h [0, 1, 5] =
  some (Out.normal, [IV.int .u8 (↑(m / 2) : Int), IV.int .i64 (↑p : Int), IV.int .i64 (↑(i + 1) : Int)], h, [], [IV.bool (decide ((↑i : Int) < (↑p : Int))) = IV.bool true, IV.int .u8 (IntKind.wrap .u8 (Int.tdiv (↑m : Int) 2)) = IV.int .u8 (↑(m / 2) : Int), IV.int .i64 (IntKind.wrap .i64 ((↑i : Int) + 1)) = IV.int .i64 (↑(i + 1) : Int)]) := by kernel_rfl
theorem post54 : psR Try.prog tab (oc54 i m true b) 50 54 none 16 (l54.drop 3) (canon 16 (ov [0] [.int .u8 (m : Nat)] g) []) h [4] =
  some (Out.ret, [IV.bool b], h, [], [IV.int .u8 (Int.tmod (↑m : Int) 2) = IV.int .u8 (↑(m % 2) : Int), IV.bool ((↑(m % 2) : Int) == 1) = IV.bool b]) := by kernel_rfl
theorem run47_no : pfR Try.prog tab (oc47 off s r2 x false b) 50 47 [.agg [hvS off n cp], .int .i64 (s : Nat)] (boxH [x]) =
  some (IV.bool false, H.new (boxH [x]) (Bx.cells [hvS off n cp] 24), [IV.bool (decide ((↑s : Int) ≥ 0)) = IV.bool true, IV.bool (decide ((↑s : Int) < 64)) = IV.bool true, IV.int .i64 (IntKind.wrap .i64 (Int.tdiv (↑s : Int) 8)) = IV.int .i64 (↑(s / 8) : Int), IV.bool (decide ((↑(s / 8) : Int) < (↑n : Int))) = IV.bool false]) := by kernel_rfl
theorem run47_yes : pfR Try.prog tab (oc47 off s r2 x true b) 50 47 [.agg [hvS off n cp], .int .i64 (s : Nat)] (boxH [x]) =
  some (IV.bool b, H.new (boxH [x]) (Bx.cells [hvS off n cp] 24), [IV.bool (decide ((↑s : Int) ≥ 0)) = IV.bool true, IV.bool (decide ((↑s : Int) < 64)) = IV.bool true, IV.int .i64 (IntKind.wrap .i64 (Int.tdiv (↑s : Int) 8)) = IV.int .i64 (↑(s / 8) : Int), IV.bool (decide ((↑(s / 8) : Int) < (↑n : Int))) = IV.bool true, IV.int .i64 (IntKind.wrap .i64 (Int.tdiv (↑s : Int) 8)) = IV.int .i64 (↑(s / 8) : Int), indexAddrI tab 22 (hvS off n cp) (IV.int .i64 (↑(s / 8) : Int)) = some (IV.ptr 0 (off + s / 8 * 2)), H.get (H.new (boxH [x]) (Bx.cells [hvS off n cp] 24)) 0 = some (x, false), ldX (x, false) false 1 (off + s / 8 * 2 + 1) = some (IV.int .u8 r2), IV.int .i64 (Int.tmod (↑s : Int) 8) = IV.int .i64 (↑(s % 8) : Int), ∀ (hh : H), ClEq Try.prog (IV.func (IFn.func 54) [] []) [IV.int .u8 r2, IV.int .i64 (↑(s % 8) : Int)] hh (IV.bool b) hh]) := by kernel_rfl
theorem run33_no : pfR Try.prog tab (oc33 off s r1 x ((boxH [x]).new (.cells [hvS off n cp] 24)) false) 50 33 [.agg [hvS off n cp], .int .i64 (s : Nat)] (boxH [x]) =
  some (IV.int .i64 (-1 : Int), H.new (boxH [x]) (Bx.cells [hvS off n cp] 24), [ClEq Try.prog (IV.func (IFn.func 47) [] []) [IV.agg [hvS off n cp], IV.int .i64 (↑s : Int)] (H.new (boxH [x]) (Bx.cells [hvS off n cp] 24)) (IV.bool false) (H.new (boxH [x]) (Bx.cells [hvS off n cp] 24))]) := by kernel_rfl
theorem run33_yes : pfR Try.prog tab (oc33 off s r1 x ((boxH [x]).new (.cells [hvS off n cp] 24)) true) 50 33 [.agg [hvS off n cp], .int .i64 (s : Nat)] (boxH [x]) =
  some (IV.int .i64 r1, H.new (boxH [x]) (Bx.cells [hvS off n cp] 24), [ClEq Try.prog (IV.func (IFn.func 47) [] []) [IV.agg [hvS off n cp], IV.int .i64 (↑s : Int)] (H.new (boxH [x]) (Bx.cells [hvS off n cp] 24)) (IV.bool true) (H.new (boxH [x]) (Bx.cells [hvS off n cp] 24)), IV.int .i64 (IntKind.wrap .i64 (Int.tdiv (↑s : Int) 8)) = IV.int .i64 (↑(s / 8) : Int), indexAddrI tab 22 (hvS off n cp) (IV.int .i64 (↑(s / 8) : Int)) = some (IV.ptr 0 (off + s / 8 * 2)), H.get (H.new (boxH [x]) (Bx.cells [hvS off n cp] 24)) 0 = some (x, false), ldX (x, false) false 1 (off + s / 8 * 2 + 0) = some (IV.int .i64 r1)]) := by kernel_rfl
end
end Go.Proofs.Ytjhgomacanffkaa
namespace Go.Proofs.Ytjhgomacanffkaa
open Go Sx Go.RowKit

theorem cW8 {a b : Int} (h : a = b) (h0 : 0 ≤ b) (h1 : b < 256) : IV.int .u8 (IntKind.wrap .u8 a) = IV.int .u8 b := by
  subst h
  simp only [IntKind.wrap, IntKind.bits, IntKind.signed, Bool.false_and, Bool.false_eq_true, if_false]
  congr 1
  omega
theorem tdivN' (a b : Nat) : (a : Int).tdiv (b : Int) = ((a / b : Nat) : Int) := by simp [Int.tdiv]

theorem bit_cl {m p : Nat} (hm : m < 256) (hp : p < 100) (h : H) : ClEq Try.prog (.func (.func 54) [] []) [.int .u8 (m : Nat), .int .i64 (p : Nat)] h (.bool (decide (m / 2 ^ p % 2 = 1))) h := by
  refine Cl.of_sp (first := []) (cap := []) enters54 ?_
  refine Sp.of_ev tab_ok Try.func54 (c := bodyC Try.prog 54) (by kernel_rfl) (Nat.le_of_ble_eq_true rfl) ?_
  show Ev Try.prog none 16 (bodyC Try.prog 54) (BodyQ tab [.tmp 4] _) _ _
  refine Ev.of_flat l54_eq ?_
  refine EvS.px tab_ok mixed (FrIs.start 16 _) (by simp) (pre54 h 0 m p) trivial fun fr g hf => ?_
  refine EvS.loop (fun t fr h' => ∃ i, i ≤ p ∧ t = p - i ∧ h' = h ∧ ∃ g, FrIs 16 fr (ov [0, 1, 5] (lv54 (m / 2 ^ i) p i) g) []) p
    ⟨0, by omega, by omega, rfl, g, by rw [Nat.pow_zero, Nat.div_one]; exact hf⟩ ?_
  rintro t fr h' ⟨i, hi, rfl, rfl, g, hf⟩
  have hdv : m / 2 ^ i ≤ m := Nat.div_le_self _ _
  by_cases hlt : i < p
  case neg =>
    obtain rfl : i = p := by omega
    refine Ev.px tab_ok mixed hf (r54_end h' g i (m / 2 ^ i) i) ⟨cF (by omega), trivial⟩ fun fr2 g2 hf2 => ?_
    refine RoundEnds.out ?_
    refine EvS.pxEnd tab_ok mixed hf2 (List.cons_ne_nil _ _) (post54 h' g2 0 (m / 2 ^ i) (decide (m / 2 ^ i % 2 = 1))) ⟨rfl, eD (by rw [decide_eq_true_iff]; generalize m / 2 ^ i % 2 = q; omega), trivial⟩ fun fr3 g3 hf3 => ?_
    have e4 : fr3.tm.tmp 4 = .bool (decide (m / 2 ^ i % 2 = 1)) := hf3.2 4 (by decide)
    exact ⟨.inr rfl, h', [.bool (decide (m / 2 ^ i % 2 = 1))], by rw [hf3.1]; rfl, by simp only [resI, e4, Option.map_some], rfl, rfl⟩
  · refine Ev.px tab_ok mixed hf (r54_go h' g i (m / 2 ^ i) p) ⟨cT (by omega), cW8 (tdivN' _ 2) (Int.natCast_nonneg _) (by generalize m / 2 ^ i = q at hdv ⊢; omega), cW (by omega) (by omega) (by omega), trivial⟩ fun fr2 g2 hf2 => ?_
    refine ⟨p - (i + 1), by omega, i + 1, by omega, rfl, rfl, g2, ?_⟩
    rw [Nat.pow_succ, ← Nat.div_div_eq_div_mul]
    exact hf2

def hasP (rs : List (Int × Int)) (s : Nat) : Bool := match rs[s / 8]? with | some r => bit r.2 (s % 8) | none => false
def clsP (rs : List (Int × Int)) (s : Nat) : Int := match rs[s / 8]? with | some r => if bit r.2 (s % 8) = true then r.1 else -1 | none => -1

theorem keepN {x : Bx} {o : Bx} : ∀ i y, (boxH [x]).get i = some y → ((boxH [x]).new o).get i = some y := by
  intro i y hi
  have hi0 : i = 0 := by
    rw [boxH_get] at hi
    cases i with
    | zero => rfl
    | succ i => simp at hi
  subst hi0
  rw [H.get_new]; exact hi

section
variable {x : Bx} {off n : Nat} {cp : Cap} {rs : List (Int × Int)} (hx : HallX x off n cp rs)
include hx
theorem hall_lt {s : Nat} (hs : s < 64) : s / 8 < n ↔ s / 8 < rs.length := by have := hx.len; omega
theorem has_sp {s : Nat} (hs : s < 64) : SpEq Try.prog 47 [.agg [hvS off n cp], .int .i64 (s : Nat)] (boxH [x]) (.bool (hasP rs s)) (boxH [x]) := by
  refine Sp.forget rfl ?_
  have hl := hall_lt hx hs
  cases hr : rs[s / 8]? with
  | none =>
    have h1 := List.getElem?_eq_none_iff.1 hr
    have e : hasP rs s = false := by unfold hasP; rw [hr]
    rw [e]
    refine (Sp.px tab_ok mixed (run47_no s off n cp x 0 true) ⟨cT (by omega), cT (by omega), cW (tdivN' _ 8) (by omega) (by omega), cF (by omega), trivial⟩).mono ?_
    rintro v h' ⟨rfl, rfl⟩
    exact ⟨rfl, keepN⟩
  | some r =>
    have h1 := (List.getElem?_eq_some_iff.1 hr).1
    have e : hasP rs s = bit r.2 (s % 8) := by unfold hasP; rw [hr]
    have hm := hx.m r (List.mem_of_getElem? hr)
    obtain ⟨m, hmm⟩ : ∃ m : Nat, r.2 = m := ⟨r.2.toNat, by omega⟩
    have eb : bit r.2 (s % 8) = decide (m / 2 ^ (s % 8) % 2 = 1) := by unfold bit; rw [hmm]; rfl
    rw [e]
    refine (Sp.px tab_ok mixed (run47_yes s off n cp x r.2 (bit r.2 (s % 8))) ⟨cT (by omega), cT (by omega), cW (tdivN' _ 8) (by omega) (by omega), cT (by omega), cW (tdivN' _ 8) (by omega) (by omega), ix_sl t22d t39s (by omega), rfl, hx.fm false _ r hr, rfl, fun hh => ?_, trivial⟩).mono ?_
    · rw [eb, hmm]
      exact bit_cl (by omega) (by omega) hh
    · rintro v h' ⟨rfl, rfl⟩
      exact ⟨rfl, keepN⟩
theorem has_cl {s : Nat} (hs : s < 64) {h : H} {b : Nat} {wr : Bool} (hb : h.get b = some (x, wr)) : ClEq Try.prog (.func (.func 47) [] []) [.agg [.slice b off n cp], .int .i64 (s : Nat)] h (.bool (hasP rs s)) h := by
  refine Cl.of_sp (first := []) (cap := []) enters47 ?_
  exact Sp.bigF (bs := [x]) (by simp [hx.fl]) (by simp [underLB, IV.underB]) rfl (has_sp hx hs) (H0 := h) (fun _ => b) (fun i o ho => by
    cases i with
    | zero => simp at ho; subst ho; exact ⟨wr, hb⟩
    | succ i => simp at ho) (fun i j hi hj _ => by simp at hi hj; omega)
theorem cls_sp {s : Nat} (hs : s < 64) : SpEq Try.prog 33 [.agg [hvS off n cp], .int .i64 (s : Nat)] (boxH [x]) (.int .i64 (clsP rs s)) (boxH [x]) := by
  refine Sp.forget rfl ?_
  have hl := hall_lt hx hs
  have hb : ((boxH [x]).new (.cells [hvS off n cp] 24)).get 0 = some (x, false) := rfl
  have hc := has_cl hx hs hb
  cases hh : hasP rs s with
  | false =>
    rw [hh] at hc
    have e : clsP rs s = -1 := by
      unfold clsP
      unfold hasP at hh
      cases hr : rs[s / 8]? with
      | none => rfl
      | some r => rw [hr] at hh; simp only at hh; simp [hh]
    rw [e]
    refine (Sp.px tab_ok mixed (run33_no s off n cp x 0) ⟨hc, trivial⟩).mono ?_
    rintro v h' ⟨rfl, rfl⟩
    exact ⟨rfl, keepN⟩
  | true =>
    rw [hh] at hc
    unfold hasP at hh
    cases hr : rs[s / 8]? with
    | none => rw [hr] at hh; cases hh
    | some r =>
      rw [hr] at hh
      simp only at hh
      have h1 := (List.getElem?_eq_some_iff.1 hr).1
      have e : clsP rs s = r.1 := by unfold clsP; rw [hr]; simp [hh]
      rw [e]
      refine (Sp.px tab_ok mixed (run33_yes s off n cp x r.1) ⟨hc, cW (tdivN' _ 8) (by omega) (by omega), ix_sl t22d t39s (by omega), rfl, hx.fc false _ r hr, trivial⟩).mono ?_
      rintro v h' ⟨rfl, rfl⟩
      exact ⟨rfl, keepN⟩
theorem cls_cl {s : Nat} (hs : s < 64) {h : H} {b : Nat} {wr : Bool} (hb : h.get b = some (x, wr)) : ClEq Try.prog (.func (.func 33) [] []) [.agg [.slice b off n cp], .int .i64 (s : Nat)] h (.int .i64 (clsP rs s)) h := by
  refine Cl.of_sp (first := []) (cap := []) enters33 ?_
  exact Sp.bigF (bs := [x]) (by simp [hx.fl]) (by simp [underLB, IV.underB]) rfl (cls_sp hx hs) (H0 := h) (fun _ => b) (fun i o ho => by
    cases i with
    | zero => simp at ho; subst ho; exact ⟨wr, hb⟩
    | succ i => simp at ho) (fun i j hi hj _ => by simp at hi hj; omega)
end
end Go.Proofs.Ytjhgomacanffkaa
namespace Go.Proofs.Ytjhgomacanffkaa
open Go Sx Go.RowKit
-- STOPS tkL, nints, hvS, slV, boxH, rcells

theorem enters32 : Go.Proofs.Enters Try.prog 32 := Go.Proofs.enters_of Try.func32 (by kernel_rfl) rfl
theorem enters19 : Go.Proofs.Enters Try.prog 19 := Go.Proofs.enters_of Try.func19 (by kernel_rfl) rfl
theorem enters34 : Go.Proofs.Enters Try.prog 34 := Go.Proofs.enters_of Try.func34 (by kernel_rfl) rfl
noncomputable def l32 : List Code := flat (bodyC Try.prog 32)
theorem l32_eq : flat (bodyC Try.prog 32) = l32.take 3 ++ (.block 0 (.loop (loopAt l32 3)) :: l32.drop 4) := by kernel_rfl
noncomputable def l19 : List Code := flat (bodyC Try.prog 19)
theorem l19_eq : flat (bodyC Try.prog 19) = l19.take 4 ++ (.block 0 (.loop (loopAt l19 4)) :: l19.drop 5) := by kernel_rfl
noncomputable def l34 : List Code := flat (bodyC Try.prog 34)
theorem l34_eq : flat (bodyC Try.prog 34) = l34.take 4 ++ (.block 0 (.loop (loopAt l34 4)) :: l34.drop 5) := by kernel_rfl

def oc32 (hv v : IV) (h h2 : H) (i : Nat) (lt hs : Bool) : Nat → Nat → Option It := fun f t => match f, t with
  | 32, 6 => some (.w (.bool lt))
  | 32, 9 => some (.l (.agg [hv]) (.cells [hv] 24, true))
  | 32, 11 => some (.c (.bool hs) h)
  | 32, 15 => some (.g v h2)
  | 32, 8 => some (.w (.int .i64 ((i + 1 : Nat) : Int)))
  | _, _ => none
def oc19 (hv lv : IV) (tk : Nat → Bool) (h h2 : H) (i k s m : Nat) (kc : Int) (L : List Nat) (lt tb eq : Bool) : Nat → Nat → Option It := fun f t => match f, t with
  | 19, 11 => some (.c lv h2)
  | 19, 14 => some (.g (.int .i64 (m : Nat)) h)
  | 19, 15 => some (.w (.bool lt))
  | 19, 20 => some (.o (.ptr 3 i))
  | 19, 21 => some (.l (.int .i64 (s : Nat)) (.cells (nints L) 3, true))
  | 19, 22 => some (.o (.ptr 2 s))
  | 19, 23 => some (.l (.bool tb) (.cells (tkL tk) 25, true))
  | 19, 26 => some (.l (.agg [hv]) (.cells [hv] 24, true))
  | 19, 29 => some (.o (.ptr 3 i))
  | 19, 30 => some (.l (.int .i64 (s : Nat)) (.cells (nints L) 3, true))
  | 19, 31 => some (.c (.int .i64 kc) h)
  | 19, 33 => some (.w (.bool eq))
  | 19, 36 => some (.w (.int .i64 ((k + 1 : Nat) : Int)))
  | 19, 17 => some (.w (.int .i64 ((i + 1 : Nat) : Int)))
  | _, _ => none
def oc34 (hv v : IV) (tk : Nat → Bool) (h h2 : H) (i m q rm : Nat) (kc : Int) (cs cs' : List IV) (lt eq hs tb nz : Bool) : Nat → Nat → Option It := fun f t => match f, t with
  | 34, 12 => some (.w (.bool lt))
  | 34, 15 => some (.l (.agg [hv]) (.cells [hv] 24, true))
  | 34, 17 => some (.c (.int .i64 kc) h)
  | 34, 19 => some (.w (.bool eq))
  | 34, 21 => some (.l (.agg [hv]) (.cells [hv] 24, true))
  | 34, 23 => some (.c (.bool hs) h)
  | 34, 27 => some (.o (.ptr 2 i))
  | 34, 28 => some (.l (.bool tb) (.cells (tkL tk) 25, true))
  | 34, 37 => some (.w (.int .i64 ((i % 8 : Nat) : Int)))
  | 34, 38 => some (.w (.bool nz))
  | 34, 42 => some (.g (.int .i64 ((m + 1 : Nat) : Int)) h)
  | 34, 43 => some (.w (.int .i64 (m : Nat)))
  | 34, 44 => some (.o (.ptr q (m * 2)))
  | 34, 45 => some (.o (.ptr q (m * 2 + 1)))
  | 34, 46 => some (.l (.int .i64 (rm : Nat)) (.cells cs 26, true))
  | 34, 47 => some (.w (.int .i64 ((rm + 1 : Nat) : Int)))
  | 34, 48 => some (.o (.ptr q (m * 2)))
  | 34, 49 => some (.o (.ptr q (m * 2 + 1)))
  | 34, 1049 => some (.t cs 26 cs')
  | 34, 55 => some (.g v h2)
  | 34, 14 => some (.w (.int .i64 ((i + 1 : Nat) : Int)))
  | _, _ => none
section
variable (h h2 : H) (g : Nat → IV) (i k s m q rm off n : Nat) (cp : Cap) (x : Bx) (c kc : Int) (hv lv v : IV) (tk : Nat → Bool) (L : List Nat) (cs cs' : List IV) (lt hs tb eq nz op : Bool)
theorem pre32 : psR Try.prog tab (fun _ _ => none) 50 32 none 17 (l32.take 3) (canon 17 (fun j => [IV.agg [hv]].getD j undefI) []) (boxH [x]) [1, 3, 4] =
  some (Out.normal, [IV.ptr 1 0, IV.nilslice, IV.int .i64 0], H.new (boxH [x]) (Bx.cells [hv] 24), [], []) := by kernel_rfl
def lv32 (lv : IV) (i : Nat) : List IV := [.ptr 1 0, lv, .int .i64 (i : Nat)]
theorem r32_end : pxR Try.prog tab (oc32 hv v h h2 i false hs) 50 32 none 17 (loopAt l32 3) (canon 17 (ov [1, 3, 4] (lv32 lv i) g) []) h [3] =
  some (Out.exit 0, [lv], h, [], [IV.bool (decide ((↑i : Int) < 64)) = IV.bool false]) := by kernel_rfl
theorem r32_no : pxR Try.prog tab (oc32 hv v h h2 i true false) 50 32 none 17 (loopAt l32 3) (canon 17 (ov [1, 3, 4] (lv32 lv i) g) []) h [1, 3, 4] =
  some (Out.normal, [IV.ptr 1 0, lv, IV.int .i64 (↑(i + 1) : Int)], h, [], [
    IV.bool (decide ((↑i : Int) < 64)) = IV.bool true, H.get h 1 = some (Bx.cells [hv] 24, true), ldX (Bx.cells [hv] 24, true) true 1 0 = some (IV.agg [hv]), ClEq Try.prog (IV.func (IFn.func 47) [] []) [IV.agg [hv], IV.int .i64 (↑i : Int)] h (IV.bool false) h, IV.int .i64 (IntKind.wrap .i64 ((↑i : Int) + 1)) = IV.int .i64 (↑(i + 1) : Int)]) := by kernel_rfl
theorem r32_yes : pxR Try.prog tab (oc32 hv v h h2 i true true) 50 32 none 17 (loopAt l32 3) (canon 17 (ov [1, 3, 4] (lv32 lv i) g) []) h [1, 3, 4] =
  some (Out.normal, [IV.ptr 1 0, v, IV.int .i64 (↑(i + 1) : Int)], h2, [], [
    IV.bool (decide ((↑i : Int) < 64)) = IV.bool true, H.get h 1 = some (Bx.cells [hv] 24, true), ldX (Bx.cells [hv] 24, true) true 1 0 = some (IV.agg [hv]), ClEq Try.prog (IV.func (IFn.func 47) [] []) [IV.agg [hv], IV.int .i64 (↑i : Int)] h (IV.bool true) h, builtinI tab Builtin.append [27, 27] [lv, IV.slice h.next 0 1 (Cap.hard 1)] (H.new h (Bx.cells [IV.int .i64 (↑i : Int)] 3)) = some (v, h2), IV.int .i64 (IntKind.wrap .i64 ((↑i : Int) + 1)) = IV.int .i64 (↑(i + 1) : Int)]) := by kernel_rfl
theorem post32 : psR Try.prog tab (fun _ _ => none) 50 32 none 17 (l32.drop 4) (canon 17 (ov [3] [lv] g) []) h [2] =
  some (Out.ret, [lv], h, [], []) := by kernel_rfl

theorem pre19 : psR Try.prog tab (oc19 hv lv tk h h2 i k s m kc L true true true) 50 19 none 38 (l19.take 4) (canon 38 (fun j => [IV.agg [hv], .agg (tkL tk), .int .i64 c].getD j undefI) []) (boxH [x]) [2, 3, 4, 7, 8, 9] =
  some (Out.normal, [IV.int .i64 c, IV.ptr 1 0, IV.ptr 2 0, IV.int .i64 0, lv, IV.int .i64 0], h2, [], [ClEq Try.prog (IV.func (IFn.func 32) [] []) [IV.agg [hv]] (H.new (H.new (boxH [x]) (Bx.cells [hv] 24)) (Bx.cells (tkL tk) 25)) lv h2]) := by kernel_rfl
def lv19 (c : Int) (k : Nat) (lv : IV) (i : Nat) : List IV := [.int .i64 c, .ptr 1 0, .ptr 2 0, .int .i64 (k : Nat), lv, .int .i64 (i : Nat)]
theorem r19_end : pxR Try.prog tab (oc19 hv lv tk h h2 i k s m kc L false true true) 50 19 none 38 (loopAt l19 4) (canon 38 (ov [2, 3, 4, 7, 8, 9] (lv19 c k lv i) g) []) h [7] =
  some (Out.exit 0, [IV.int .i64 (↑k : Int)], h, [], [builtinI tab Builtin.len [27] [lv] h = some (IV.int .i64 (↑m : Int), h), IV.bool (decide ((↑i : Int) < (↑m : Int))) = IV.bool false]) := by kernel_rfl
theorem r19_tk : pxR Try.prog tab (oc19 hv lv tk h h2 i k s m kc L true true true) 50 19 none 38 (loopAt l19 4) (canon 38 (ov [2, 3, 4, 7, 8, 9] (lv19 c k lv i) g) []) h [2, 3, 4, 7, 8, 9] =
  some (Out.normal, [IV.int .i64 c, IV.ptr 1 0, IV.ptr 2 0, IV.int .i64 (↑k : Int), lv, IV.int .i64 (↑(i + 1) : Int)], h, [], [
    builtinI tab Builtin.len [27] [lv] h = some (IV.int .i64 (↑m : Int), h), IV.bool (decide ((↑i : Int) < (↑m : Int))) = IV.bool true, indexAddrI tab 27 lv (IV.int .i64 (↑i : Int)) = some (IV.ptr 3 i), H.get h 3 = some (Bx.cells (nints L) 3, true), ldX (Bx.cells (nints L) 3, true) false 1 i = some (IV.int .i64 (↑s : Int)), indexAddrI tab 25 (IV.ptr 2 0) (IV.int .i64 (↑s : Int)) = some (IV.ptr 2 s), H.get h 2 = some (Bx.cells (tkL tk) 25, true), ldX (Bx.cells (tkL tk) 25, true) false 1 s = some (IV.bool true), IV.int .i64 (IntKind.wrap .i64 ((↑i : Int) + 1)) = IV.int .i64 (↑(i + 1) : Int)]) := by kernel_rfl
theorem r19_ne : pxR Try.prog tab (oc19 hv lv tk h h2 i k s m kc L true false false) 50 19 none 38 (loopAt l19 4) (canon 38 (ov [2, 3, 4, 7, 8, 9] (lv19 c k lv i) g) []) h [2, 3, 4, 7, 8, 9] =
  some (Out.normal, [IV.int .i64 c, IV.ptr 1 0, IV.ptr 2 0, IV.int .i64 (↑k : Int), lv, IV.int .i64 (↑(i + 1) : Int)], h, [], [
    builtinI tab Builtin.len [27] [lv] h = some (IV.int .i64 (↑m : Int), h), IV.bool (decide ((↑i : Int) < (↑m : Int))) = IV.bool true, indexAddrI tab 27 lv (IV.int .i64 (↑i : Int)) = some (IV.ptr 3 i), H.get h 3 = some (Bx.cells (nints L) 3, true), ldX (Bx.cells (nints L) 3, true) false 1 i = some (IV.int .i64 (↑s : Int)), indexAddrI tab 25 (IV.ptr 2 0) (IV.int .i64 (↑s : Int)) = some (IV.ptr 2 s), H.get h 2 = some (Bx.cells (tkL tk) 25, true), ldX (Bx.cells (tkL tk) 25, true) false 1 s = some (IV.bool false), H.get h 1 = some (Bx.cells [hv] 24, true), ldX (Bx.cells [hv] 24, true) true 1 0 = some (IV.agg [hv]), indexAddrI tab 27 lv (IV.int .i64 (↑i : Int)) = some (IV.ptr 3 i), H.get h 3 = some (Bx.cells (nints L) 3, true), ldX (Bx.cells (nints L) 3, true) false 1 i = some (IV.int .i64 (↑s : Int)), ClEq Try.prog (IV.func (IFn.func 33) [] []) [IV.agg [hv], IV.int .i64 (↑s : Int)] h (IV.int .i64 kc) h, IV.bool (kc == c) = IV.bool false, IV.int .i64 (IntKind.wrap .i64 ((↑i : Int) + 1)) = IV.int .i64 (↑(i + 1) : Int)]) := by kernel_rfl
theorem r19_eq : pxR Try.prog tab (oc19 hv lv tk h h2 i k s m kc L true false true) 50 19 none 38 (loopAt l19 4) (canon 38 (ov [2, 3, 4, 7, 8, 9] (lv19 c k lv i) g) []) h [2, 3, 4, 7, 8, 9] =
  some (Out.normal, [IV.int .i64 c, IV.ptr 1 0, IV.ptr 2 0, IV.int .i64 (↑(k + 1) : Int), lv, IV.int .i64 (↑(i + 1) : Int)], h, [], [
    builtinI tab Builtin.len [27] [lv] h = some (IV.int .i64 (↑m : Int), h), IV.bool (decide ((↑i : Int) < (↑m : Int))) = IV.bool true, indexAddrI tab 27 lv (IV.int .i64 (↑i : Int)) = some (IV.ptr 3 i), H.get h 3 = some (Bx.cells (nints L) 3, true), ldX (Bx.cells (nints L) 3, true) false 1 i = some (IV.int .i64 (↑s : Int)), indexAddrI tab 25 (IV.ptr 2 0) (IV.int .i64 (↑s : Int)) = some (IV.ptr 2 s), H.get h 2 = some (Bx.cells (tkL tk) 25, true), ldX (Bx.cells (tkL tk) 25, true) false 1 s = some (IV.bool false), H.get h 1 = some (Bx.cells [hv] 24, true), ldX (Bx.cells [hv] 24, true) true 1 0 = some (IV.agg [hv]), indexAddrI tab 27 lv (IV.int .i64 (↑i : Int)) = some (IV.ptr 3 i), H.get h 3 = some (Bx.cells (nints L) 3, true), ldX (Bx.cells (nints L) 3, true) false 1 i = some (IV.int .i64 (↑s : Int)), ClEq Try.prog (IV.func (IFn.func 33) [] []) [IV.agg [hv], IV.int .i64 (↑s : Int)] h (IV.int .i64 kc) h, IV.bool (kc == c) = IV.bool true, IV.int .i64 (IntKind.wrap .i64 ((↑k : Int) + 1)) = IV.int .i64 (↑(k + 1) : Int), IV.int .i64 (IntKind.wrap .i64 ((↑i : Int) + 1)) = IV.int .i64 (↑(i + 1) : Int)]) := by kernel_rfl
theorem post19 : psR Try.prog tab (fun _ _ => none) 50 19 none 38 (l19.drop 5) (canon 38 (ov [7] [.int .i64 (k : Nat)] g) []) h [6] =
  some (Out.ret, [IV.int .i64 (↑k : Int)], h, [], []) := by kernel_rfl

theorem pre34 : psR Try.prog tab (fun _ _ => none) 50 34 none 58 (l34.take 4) (canon 58 (fun j => [IV.agg [hv], .int .i64 c, .agg (tkL tk)].getD j undefI) []) (boxH [x]) [1, 3, 5, 7, 8, 9] =
  some (Out.normal, [IV.int .i64 c, IV.ptr 1 0, IV.ptr 2 0, IV.nilslice, IV.bool false, IV.int .i64 0], H.new (H.new (boxH [x]) (Bx.cells [hv] 24)) (Bx.cells (tkL tk) 25), [], []) := by kernel_rfl
def lv34 (c : Int) (lv : IV) (op : Bool) (i : Nat) : List IV := [.int .i64 c, .ptr 1 0, .ptr 2 0, lv, .bool op, .int .i64 (i : Nat)]
theorem r34_end : pxR Try.prog tab (oc34 hv v tk h h2 i m q rm kc cs cs' false eq hs tb nz) 50 34 none 58 (loopAt l34 4) (canon 58 (ov [1, 3, 5, 7, 8, 9] (lv34 c lv op i) g) []) h [7] =
  some (Out.exit 0, [lv], h, [], [IV.bool (decide ((↑i : Int) < 64)) = IV.bool false]) := by kernel_rfl
theorem r34_ne : pxR Try.prog tab (oc34 hv v tk h h2 i m q rm kc cs cs' true false hs tb nz) 50 34 none 58 (loopAt l34 4) (canon 58 (ov [1, 3, 5, 7, 8, 9] (lv34 c lv op i) g) []) h [1, 3, 5, 7, 8, 9] =
  some (Out.normal, [IV.int .i64 c, IV.ptr 1 0, IV.ptr 2 0, lv, IV.bool false, IV.int .i64 (↑(i + 1) : Int)], h, [], [
    IV.bool (decide ((↑i : Int) < 64)) = IV.bool true, H.get h 1 = some (Bx.cells [hv] 24, true), ldX (Bx.cells [hv] 24, true) true 1 0 = some (IV.agg [hv]), ClEq Try.prog (IV.func (IFn.func 33) [] []) [IV.agg [hv], IV.int .i64 (↑i : Int)] h (IV.int .i64 kc) h, IV.bool (kc == c) = IV.bool false, IV.int .i64 (IntKind.wrap .i64 ((↑i : Int) + 1)) = IV.int .i64 (↑(i + 1) : Int)]) := by kernel_rfl
theorem r34_no : pxR Try.prog tab (oc34 hv v tk h h2 i m q rm kc cs cs' true true false tb nz) 50 34 none 58 (loopAt l34 4) (canon 58 (ov [1, 3, 5, 7, 8, 9] (lv34 c lv op i) g) []) h [1, 3, 5, 7, 8, 9] =
  some (Out.normal, [IV.int .i64 c, IV.ptr 1 0, IV.ptr 2 0, lv, IV.bool false, IV.int .i64 (↑(i + 1) : Int)], h, [], [
    IV.bool (decide ((↑i : Int) < 64)) = IV.bool true, H.get h 1 = some (Bx.cells [hv] 24, true), ldX (Bx.cells [hv] 24, true) true 1 0 = some (IV.agg [hv]), ClEq Try.prog (IV.func (IFn.func 33) [] []) [IV.agg [hv], IV.int .i64 (↑i : Int)] h (IV.int .i64 kc) h, IV.bool (kc == c) = IV.bool true, H.get h 1 = some (Bx.cells [hv] 24, true), ldX (Bx.cells [hv] 24, true) true 1 0 = some (IV.agg [hv]), ClEq Try.prog (IV.func (IFn.func 47) [] []) [IV.agg [hv], IV.int .i64 (↑i : Int)] h (IV.bool false) h, IV.int .i64 (IntKind.wrap .i64 ((↑i : Int) + 1)) = IV.int .i64 (↑(i + 1) : Int)]) := by kernel_rfl
theorem r34_tk : pxR Try.prog tab (oc34 hv v tk h h2 i m q rm kc cs cs' true true true true nz) 50 34 none 58 (loopAt l34 4) (canon 58 (ov [1, 3, 5, 7, 8, 9] (lv34 c lv op i) g) []) h [1, 3, 5, 7, 8, 9] =
  some (Out.normal, [IV.int .i64 c, IV.ptr 1 0, IV.ptr 2 0, lv, IV.bool false, IV.int .i64 (↑(i + 1) : Int)], h, [], [
    IV.bool (decide ((↑i : Int) < 64)) = IV.bool true, H.get h 1 = some (Bx.cells [hv] 24, true), ldX (Bx.cells [hv] 24, true) true 1 0 = some (IV.agg [hv]), ClEq Try.prog (IV.func (IFn.func 33) [] []) [IV.agg [hv], IV.int .i64 (↑i : Int)] h (IV.int .i64 kc) h, IV.bool (kc == c) = IV.bool true, H.get h 1 = some (Bx.cells [hv] 24, true), ldX (Bx.cells [hv] 24, true) true 1 0 = some (IV.agg [hv]), ClEq Try.prog (IV.func (IFn.func 47) [] []) [IV.agg [hv], IV.int .i64 (↑i : Int)] h (IV.bool true) h, indexAddrI tab 25 (IV.ptr 2 0) (IV.int .i64 (↑i : Int)) = some (IV.ptr 2 i), H.get h 2 = some (Bx.cells (tkL tk) 25, true), ldX (Bx.cells (tkL tk) 25, true) false 1 i = some (IV.bool true), IV.int .i64 (IntKind.wrap .i64 ((↑i : Int) + 1)) = IV.int .i64 (↑(i + 1) : Int)]) := by kernel_rfl
theorem r34_new : pxR Try.prog tab (oc34 hv v tk h h2 i m q rm kc cs cs' true true true false nz) 50 34 none 58 (loopAt l34 4) (canon 58 (ov [1, 3, 5, 7, 8, 9] (lv34 c lv false i) g) []) h [1, 3, 5, 7, 8, 9] =
  some (Out.normal, [IV.int .i64 c, IV.ptr 1 0, IV.ptr 2 0, v, IV.bool true, IV.int .i64 (↑(i + 1) : Int)], h2, [], [
    IV.bool (decide ((↑i : Int) < 64)) = IV.bool true, H.get h 1 = some (Bx.cells [hv] 24, true), ldX (Bx.cells [hv] 24, true) true 1 0 = some (IV.agg [hv]), ClEq Try.prog (IV.func (IFn.func 33) [] []) [IV.agg [hv], IV.int .i64 (↑i : Int)] h (IV.int .i64 kc) h, IV.bool (kc == c) = IV.bool true, H.get h 1 = some (Bx.cells [hv] 24, true), ldX (Bx.cells [hv] 24, true) true 1 0 = some (IV.agg [hv]), ClEq Try.prog (IV.func (IFn.func 47) [] []) [IV.agg [hv], IV.int .i64 (↑i : Int)] h (IV.bool true) h, indexAddrI tab 25 (IV.ptr 2 0) (IV.int .i64 (↑i : Int)) = some (IV.ptr 2 i), H.get h 2 = some (Bx.cells (tkL tk) 25, true), ldX (Bx.cells (tkL tk) 25, true) false 1 i = some (IV.bool false), builtinI tab Builtin.append [53, 53] [lv, IV.slice h.next 0 1 (Cap.hard 1)] (H.new h (Bx.cells (rc (i, 1)) 26)) = some (v, h2), IV.int .i64 (IntKind.wrap .i64 ((↑i : Int) + 1)) = IV.int .i64 (↑(i + 1) : Int)]) := by kernel_rfl
theorem r34_z : pxR Try.prog tab (oc34 hv v tk h h2 i m q rm kc cs cs' true true true false false) 50 34 none 58 (loopAt l34 4) (canon 58 (ov [1, 3, 5, 7, 8, 9] (lv34 c lv true i) g) []) h [1, 3, 5, 7, 8, 9] =
  some (Out.normal, [IV.int .i64 c, IV.ptr 1 0, IV.ptr 2 0, v, IV.bool true, IV.int .i64 (↑(i + 1) : Int)], h2, [], [
    IV.bool (decide ((↑i : Int) < 64)) = IV.bool true, H.get h 1 = some (Bx.cells [hv] 24, true), ldX (Bx.cells [hv] 24, true) true 1 0 = some (IV.agg [hv]), ClEq Try.prog (IV.func (IFn.func 33) [] []) [IV.agg [hv], IV.int .i64 (↑i : Int)] h (IV.int .i64 kc) h, IV.bool (kc == c) = IV.bool true, H.get h 1 = some (Bx.cells [hv] 24, true), ldX (Bx.cells [hv] 24, true) true 1 0 = some (IV.agg [hv]), ClEq Try.prog (IV.func (IFn.func 47) [] []) [IV.agg [hv], IV.int .i64 (↑i : Int)] h (IV.bool true) h, indexAddrI tab 25 (IV.ptr 2 0) (IV.int .i64 (↑i : Int)) = some (IV.ptr 2 i), H.get h 2 = some (Bx.cells (tkL tk) 25, true), ldX (Bx.cells (tkL tk) 25, true) false 1 i = some (IV.bool false), IV.int .i64 (Int.tmod (↑i : Int) 8) = IV.int .i64 (↑(i % 8) : Int), IV.bool (decide ((↑(i % 8) : Int) > 0)) = IV.bool false, builtinI tab Builtin.append [53, 53] [lv, IV.slice h.next 0 1 (Cap.hard 1)] (H.new h (Bx.cells (rc (i, 1)) 26)) = some (v, h2), IV.int .i64 (IntKind.wrap .i64 ((↑i : Int) + 1)) = IV.int .i64 (↑(i + 1) : Int)]) := by kernel_rfl
theorem r34_inc : pxR Try.prog tab (oc34 hv v tk h h2 i m q rm kc cs cs' true true true false true) 50 34 none 58 (loopAt l34 4) (canon 58 (ov [1, 3, 5, 7, 8, 9] (lv34 c lv true i) g) []) h [1, 3, 5, 7, 8, 9] =
  some (Out.normal, [IV.int .i64 c, IV.ptr 1 0, IV.ptr 2 0, lv, IV.bool true, IV.int .i64 (↑(i + 1) : Int)], H.put h q (Bx.cells cs' 26), [], [
    IV.bool (decide ((↑i : Int) < 64)) = IV.bool true, H.get h 1 = some (Bx.cells [hv] 24, true), ldX (Bx.cells [hv] 24, true) true 1 0 = some (IV.agg [hv]), ClEq Try.prog (IV.func (IFn.func 33) [] []) [IV.agg [hv], IV.int .i64 (↑i : Int)] h (IV.int .i64 kc) h, IV.bool (kc == c) = IV.bool true, H.get h 1 = some (Bx.cells [hv] 24, true), ldX (Bx.cells [hv] 24, true) true 1 0 = some (IV.agg [hv]), ClEq Try.prog (IV.func (IFn.func 47) [] []) [IV.agg [hv], IV.int .i64 (↑i : Int)] h (IV.bool true) h, indexAddrI tab 25 (IV.ptr 2 0) (IV.int .i64 (↑i : Int)) = some (IV.ptr 2 i), H.get h 2 = some (Bx.cells (tkL tk) 25, true), ldX (Bx.cells (tkL tk) 25, true) false 1 i = some (IV.bool false), IV.int .i64 (Int.tmod (↑i : Int) 8) = IV.int .i64 (↑(i % 8) : Int), IV.bool (decide ((↑(i % 8) : Int) > 0)) = IV.bool true, builtinI tab Builtin.len [53] [lv] h = some (IV.int .i64 (↑(m + 1) : Int), h), IV.int .i64 (IntKind.wrap .i64 ((↑(m + 1) : Int) - 1)) = IV.int .i64 (↑m : Int), indexAddrI tab 53 lv (IV.int .i64 (↑m : Int)) = some (IV.ptr q (m * 2)), indexAddrI tab 26 (IV.ptr q (m * 2)) (IV.int .i64 1) = some (IV.ptr q (m * 2 + 1)), H.get h q = some (Bx.cells cs 26, true), ldX (Bx.cells cs 26, true) false 1 (m * 2 + 1) = some (IV.int .i64 (↑rm : Int)), IV.int .i64 (IntKind.wrap .i64 ((↑rm : Int) + 1)) = IV.int .i64 (↑(rm + 1) : Int), indexAddrI tab 53 lv (IV.int .i64 (↑m : Int)) = some (IV.ptr q (m * 2)), indexAddrI tab 26 (IV.ptr q (m * 2)) (IV.int .i64 1) = some (IV.ptr q (m * 2 + 1)), H.get h q = some (Bx.cells cs 26, true), stC 1 cs (m * 2 + 1) (IV.int .i64 (↑(rm + 1) : Int)) = some cs', IV.int .i64 (IntKind.wrap .i64 ((↑i : Int) + 1)) = IV.int .i64 (↑(i + 1) : Int)]) := by kernel_rfl
theorem post34 : psR Try.prog tab (fun _ _ => none) 50 34 none 58 (l34.drop 5) (canon 58 (ov [7] [lv] g) []) h [6] =
  some (Out.ret, [lv], h, [], []) := by kernel_rfl
end
end Go.Proofs.Ytjhgomacanffkaa
namespace Go.Proofs.Ytjhgomacanffkaa
open Go Sx Go.RowKit

/-! ### A list that grows at an open heap -/
structure JL (h0 : H) (cs : List IV) (e : TypeId) (len : Nat) (h : H) (s : Nat) : Prop where
  dom : ∀ i y, h.get i = some y → i < h.next
  le : h0.next ≤ h.next
  keep : ∀ i x, h0.get i = some x → h.get i = some x
  gs : len = 0 ∨ (h0.next ≤ s ∧ s < h.next ∧ h.get s = some (.cells cs e, true))
theorem JL.start {h0 : H} (hd : ∀ i y, h0.get i = some y → i < h0.next) (cs : List IV) (e : TypeId) (s : Nat) : JL h0 cs e 0 h0 s := ⟨hd, Nat.le_refl _, fun _ _ h => h, .inl rfl⟩
theorem JL.app {h0 h : H} {cs news : List IV} {t e sz bt len s : Nat} (hd0 : ∀ i y, h0.get i = some y → i < h0.next) (j : JL h0 cs e len h s) (ht : (tab.get t).map Ty.d = some (.slice e)) (he : (tab.get e).map (fun y => (y.size, y.bytes, y.zv.cells.length)) = some (sz, bt, sz)) (hbt : bt ≤ 100) (hsz : 0 < sz)
    (hlen : len ≤ 100000) (hcs : cs.length = len * sz) (hl : news.length = sz) (hone : news.all IV.one = true) :
    ∃ h2, builtinI tab .append [t, t] [slV s len, .slice h.next 0 1 (.hard 1)] (h.new (.cells news e)) = some (slV (h.next + 1) (len + 1), h2) ∧ JL h0 (cs ++ news) e (len + 1) h2 (h.next + 1) := by
  have hn : (h.new (.cells news e)).get h.next = some (.cells news e, true) := by rw [H.get_new, if_pos rfl]
  have hs' : len = 0 ∨ (h.new (.cells news e)).get s = some (.cells cs e, true) := by
    rcases j.gs with hz | ⟨_, h2, h3⟩
    · exact .inl hz
    · exact .inr (by rw [H.get_new, if_neg (by omega)]; exact h3)
  obtain ⟨h2, ha, hnx, hnew, hold⟩ := app_one ht he hbt hsz hlen hcs hs' hn (c := .hard 1) hl hone
  rw [H.next_new] at ha hnx hnew hold
  have jle := j.le
  refine ⟨h2, ha, ⟨fun i y hi => ?_, by omega, fun i x hi => ?_, .inr ⟨by omega, by omega, hnew⟩⟩⟩
  · by_cases e1 : i = h.next + 1
    · omega
    · by_cases e2 : i = h.next
      · omega
      · have key : len = 0 ∨ i ≠ s → i < h2.next := fun hk => by
          rw [hold i e1 hk, H.get_new, if_neg (fun e => e2 e.symm)] at hi
          have := j.dom _ _ hi
          omega
        by_cases e3 : i = s
        · rcases j.gs with hz | ⟨_, h2', _⟩
          · exact key (.inl hz)
          · omega
        · exact key (.inr e3)
  · have hlt := hd0 _ _ hi
    rw [hold i (by omega) (j.gs.imp id fun ⟨h1, _, _⟩ => by omega), H.get_new, if_neg (by omega)]
    exact j.keep _ _ hi
theorem JL.put {h0 h : H} {cs cs' : List IV} {e : TypeId} {len s : Nat} (hd0 : ∀ i y, h0.get i = some y → i < h0.next) (j : JL h0 cs e len h s) (hl : 0 < len) : JL h0 cs' e len (h.put s (.cells cs' e)) s := by
  rcases j.gs with hz | ⟨h1, h2, h3⟩
  · omega
  · refine ⟨dom_put h3 j.dom, j.le, fun i x hi => ?_, .inr ⟨h1, h2, by rw [H.get_put, if_pos rfl]⟩⟩
    have hlt := hd0 _ _ hi
    rw [H.get_put, if_neg (by omega)]
    exact j.keep _ _ hi
theorem JL.putOld {h0 h : H} {cs : List IV} {e : TypeId} {len s b : Nat} {o o' : Bx} (j : JL h0 cs e len h s) (hb : h0.get b = some (o, true)) (hlt : b < h0.next) : JL (h0.put b o') cs e len (h.put b o') s := by
  refine ⟨dom_put (j.keep _ _ hb) j.dom, j.le, fun i x hi => ?_, j.gs.imp id fun ⟨h1, h2, h3⟩ => ⟨h1, h2, by rw [H.get_put, if_neg (by omega)]; exact h3⟩⟩
  rw [H.get_put] at hi ⊢
  by_cases e1 : b = i
  · rw [if_pos e1] at hi ⊢; exact hi
  · rw [if_neg e1] at hi ⊢; exact j.keep _ _ hi
theorem JL.get {h0 h : H} {cs : List IV} {e : TypeId} {len s : Nat} (j : JL h0 cs e len h s) (hl : 0 < len) : h.get s = some (.cells cs e, true) := by
  rcases j.gs with hz | ⟨_, _, h3⟩
  · omega
  · exact h3

/-! ### Seats -/
def seatsR (rs : List (Int × Int)) (m : Nat) : List Nat := (List.range m).filter (hasP rs)
theorem seatsR_succ (rs : List (Int × Int)) (m : Nat) : seatsR rs (m + 1) = seatsR rs m ++ (if hasP rs m = true then [m] else []) := by
  unfold seatsR
  rw [List.range_succ, List.filter_append]
  by_cases h : hasP rs m = true
  · simp [h]
  · simp [h]
theorem seatsR_length (rs : List (Int × Int)) (m : Nat) : (seatsR rs m).length ≤ m := by
  unfold seatsR
  refine Nat.le_trans (List.length_filter_le _ _) ?_
  simp
section
variable {x : Bx} {off n : Nat} {cp : Cap} {rs : List (Int × Int)} (hx : HallX x off n cp rs)
include hx
theorem seats2_sp : Sp Try.prog 32 [.agg [.slice 0 off n cp]] (boxH [x]) fun v' h' => ∃ s, v' = slV s (seatsR rs 64).length ∧
      ((seatsR rs 64).length = 0 ∨ (h'.get s = some (.cells (nints (seatsR rs 64)) 3, true) ∧ [x].length ≤ s)) ∧ ∀ i y, (boxH [x]).get i = some y → h'.get i = some y := by
  let hv : IV := .slice 0 off n cp
  have hd0 : ∀ i y, ((boxH [x]).new (.cells [hv] 24)).get i = some y → i < ((boxH [x]).new (.cells [hv] 24)).next := dom_new dom_boxH
  have k0 : ((boxH [x]).new (.cells [hv] 24)).get 0 = some (x, false) := by kernel_rfl
  have k1 : ((boxH [x]).new (.cells [hv] 24)).get 1 = some (.cells [hv] 24, true) := by kernel_rfl
  refine Sp.of_ev tab_ok Try.func32 (c := bodyC Try.prog 32) (by kernel_rfl) (Nat.le_of_ble_eq_true rfl) ?_
  show Ev Try.prog none 17 (bodyC Try.prog 32) (BodyQ tab [.tmp 2] _) _ _
  refine Ev.of_flat l32_eq ?_
  refine EvS.px tab_ok mixed (FrIs.start 17 _) (by simp) (pre32 x hv) trivial fun fr g hf => ?_
  refine EvS.loop (fun t fr h => ∃ i s, i ≤ 64 ∧ t = 64 - i ∧ JL ((boxH [x]).new (.cells [hv] 24)) (nints (seatsR rs i)) 3 (seatsR rs i).length h s ∧ ∃ g, FrIs 17 fr (ov [1, 3, 4] (lv32 (slV s (seatsR rs i).length) i) g) []) 64
    ⟨0, 0, by omega, by omega, JL.start hd0 _ _ _, g, hf⟩ ?_
  rintro t fr h ⟨i, s, hi, rfl, j, g, hf⟩
  have hsl := seatsR_length rs i
  by_cases hlt : i < 64
  case neg =>
    obtain rfl : i = 64 := by omega
    refine Ev.px tab_ok mixed hf (r32_end h h g 64 hv _ .nilslice true) ⟨cF (by omega), trivial⟩ fun fr2 g2 hf2 => ?_
    refine RoundEnds.out ?_
    refine EvS.pxEnd tab_ok mixed hf2 (List.cons_ne_nil _ _) (post32 h g2 _) trivial fun fr3 g3 hf3 => ?_
    exact bodyQ_list (s := s) (r := 2) hf3.1 (hf3.2 2 (by decide)) (j.gs.imp id fun ⟨a, _, c⟩ => ⟨c, Nat.le_trans (by show 1 ≤ 2; decide) a⟩) (j.keep _ _ k0)
  have hc := has_cl hx hlt (j.keep _ _ k0)
  have hsu := seatsR_succ rs i
  cases hh : hasP rs i with
  | false =>
    rw [hh] at hc hsu
    simp only [Bool.false_eq_true, if_false, List.append_nil] at hsu
    refine Ev.px tab_ok mixed hf (r32_no h h g i hv _ .nilslice) ⟨cT (by omega), j.keep _ _ k1, rfl, hc, cW (by omega) (by omega) (by omega), trivial⟩ fun fr2 g2 hf2 => ?_
    exact ⟨64 - (i + 1), by omega, i + 1, s, by omega, rfl, by rw [hsu]; exact j, g2, by rw [hsu]; exact hf2⟩
  | true =>
    rw [hh] at hc hsu
    simp only [if_true] at hsu
    obtain ⟨h2, ha, j2⟩ := JL.app (news := [.int .i64 (i : Nat)]) hd0 j t27d t3i (by decide) (by decide) (by omega) (by rw [nints_length, Nat.mul_one]) rfl rfl
    refine Ev.px tab_ok mixed hf (r32_yes h h2 g i hv _ _) ⟨cT (by omega), j.keep _ _ k1, rfl, hc, ha, cW (by omega) (by omega) (by omega), trivial⟩ fun fr2 g2 hf2 => ?_
    refine ⟨64 - (i + 1), by omega, i + 1, h.next + 1, by omega, rfl, ?_, g2, ?_⟩
    · rw [hsu, List.length_append, List.length_singleton]
      have : nints (seatsR rs i ++ [i]) = nints (seatsR rs i) ++ [.int .i64 (i : Nat)] := by simp [nints]
      rw [this]; exact j2
    · rw [hsu, List.length_append, List.length_singleton]; exact hf2
theorem seats2_cl {h : H} {b : Nat} {wr : Bool} (hb : h.get b = some (x, wr)) : ClEq Try.prog (.func (.func 32) [] []) [.agg [.slice b off n cp]] h (slV h.next (seatsR rs 64).length) (newL h (seatsR rs 64).length (nints (seatsR rs 64)) 3) := by
  refine Cl.of_sp (first := []) (cap := []) enters32 ?_
  exact Sp.list (bs := [x]) (by simp [hx.fl]) (by simp [underLB, IV.underB]) (nints_flat _) (seats2_sp hx) (H0 := h) (fun _ => b) (fun i o ho => by
    cases i with
    | zero => simp at ho; subst ho; exact ⟨wr, hb⟩
    | succ i => simp at ho) (fun i j hi hj _ => by simp at hi hj; omega)
end

/-! ### What is free -/
def selR (rs : List (Int × Int)) (c : Int) (tk : Nat → Bool) (s : Nat) : Bool := decide (clsP rs s = c) && hasP rs s && !tk s
theorem selR_iff {rs : List (Int × Int)} {c : Int} {tk : Nat → Bool} {s : Nat} : selR rs c tk s = true ↔ s ∈ free rs c tk := by
  unfold selR clsP hasP
  constructor
  · intro h
    cases hr : rs[s / 8]? with
    | none => rw [hr] at h; simp at h
    | some r =>
      rw [hr] at h
      simp only [Bool.and_eq_true, decide_eq_true_eq, Bool.not_eq_true'] at h
      obtain ⟨⟨h1, h2⟩, h3⟩ := h
      rw [if_pos h2] at h1
      have := (free_at (c := c) (tk := tk) hr (p := s % 8) (by omega)).2 ⟨h1, h2, by rw [show 8 * (s / 8) + s % 8 = s by omega]; exact h3⟩
      rwa [show 8 * (s / 8) + s % 8 = s by omega] at this
  · intro h
    obtain ⟨r, hr, h1, h2, h3⟩ := free_out h
    rw [hr]
    simp [h1, h2, h3]
theorem sorted_ext : ∀ {l l' : List Nat}, l.Pairwise (· < ·) → l'.Pairwise (· < ·) → (∀ s, s ∈ l ↔ s ∈ l') → l = l' := by
  intro l l' h h' hm
  have hn : l.Nodup := h.imp fun h e => by omega
  have hn' : l'.Nodup := h'.imp fun h e => by omega
  have hp : l.Perm l' := (List.perm_ext_iff_of_nodup hn hn').2 hm
  exact hp.eq_of_pairwise (fun a b _ _ h1 h2 => by omega) h h'
theorem range_pw (p : Nat → Bool) (m : Nat) : ((List.range m).filter p).Pairwise (· < ·) := List.pairwise_lt_range.filter _
theorem freeR_eq {rs : List (Int × Int)} (h8 : rs.length ≤ 8) (c : Int) (tk : Nat → Bool) : (List.range 64).filter (selR rs c tk) = free rs c tk := by
  refine sorted_ext (range_pw _ _) (free_pw rs c tk) fun s => ?_
  rw [List.mem_filter, List.mem_range, selR_iff]
  exact ⟨fun h => h.2, fun h => ⟨free_lt h8 h, h⟩⟩

def cntR (rs : List (Int × Int)) (c : Int) (tk : Nat → Bool) (l : List Nat) : Nat := (l.filter fun s => decide (clsP rs s = c) && !tk s).length
theorem cntR_all {rs : List (Int × Int)} (h8 : rs.length ≤ 8) (c : Int) (tk : Nat → Bool) : cntR rs c tk (seatsR rs 64) = (free rs c tk).length := by
  unfold cntR seatsR
  rw [List.filter_filter, ← freeR_eq h8]
  congr 1
  refine List.filter_congr fun s _ => ?_
  unfold selR
  cases decide (clsP rs s = c) <;> cases hasP rs s <;> cases tk s <;> rfl
section
variable {x : Bx} {off n : Nat} {cp : Cap} {rs : List (Int × Int)} (hx : HallX x off n cp rs)
include hx
theorem free2_sp (c : Int) (tk : Nat → Bool) : SpEq Try.prog 19 [.agg [.slice 0 off n cp], .agg (tkL tk), .int .i64 c] (boxH [x]) (.int .i64 ((free rs c tk).length : Nat)) (boxH [x]) := by
  refine Sp.forget rfl ?_
  have h8 : rs.length ≤ 8 := by have := hx.len; omega
  rw [← cntR_all h8]
  let hv : IV := .slice 0 off n cp
  let hb : H := ((boxH [x]).new (.cells [hv] 24)).new (.cells (tkL tk) 25)
  have hd0 : ∀ i y, hb.get i = some y → i < hb.next := dom_new (dom_new dom_boxH)
  have k0 : hb.get 0 = some (x, false) := by kernel_rfl
  have q0 := seats2_cl hx k0
  have hl := seatsR_length rs 64
  have hlt64 : ∀ s ∈ seatsR rs 64, s < 64 := fun s hs => by
    unfold seatsR at hs
    exact List.mem_range.1 (List.mem_filter.1 hs).1
  generalize hL : seatsR rs 64 = L at *
  obtain ⟨hg2, hd2⟩ := newL_grows hd0 L.length (nints L) 3
  have k3 : 0 < L.length → (newL hb L.length (nints L) 3).get 3 = some (.cells (nints L) 3, true) := fun hp => newL_get (h := hb) hp _ _
  refine Sp.of_ev tab_ok Try.func19 (c := bodyC Try.prog 19) (by kernel_rfl) (Nat.le_of_ble_eq_true rfl) ?_
  show Ev Try.prog none 38 (bodyC Try.prog 19) (BodyQ tab [.tmp 6] _) _ _
  refine Ev.of_flat l19_eq ?_
  refine EvS.px tab_ok mixed (FrIs.start 38 _) (by simp) (pre19 (boxH []) _ 0 0 0 0 x c 0 hv (slV 3 L.length) tk []) ⟨q0, trivial⟩ fun fr g hf => ?_
  have g0 := hg2.2 _ _ k0
  have g1 := hg2.2 1 (.cells [hv] 24, true) (by kernel_rfl)
  have g2 := hg2.2 2 (.cells (tkL tk) 25, true) (by kernel_rfl)
  have gk : ∀ i y, (boxH [x]).get i = some y → (newL hb L.length (nints L) 3).get i = some y := keep0 g0
  generalize newL hb L.length (nints L) 3 = h2 at *
  refine EvS.loop (fun t fr h => ∃ i, i ≤ L.length ∧ t = L.length - i ∧ h = h2 ∧ ∃ g, FrIs 38 fr (ov [2, 3, 4, 7, 8, 9] (lv19 c (cntR rs c tk (L.take i)) (slV 3 L.length) i) g) []) L.length
    ⟨0, by omega, by omega, rfl, g, hf⟩ ?_
  rintro t fr h ⟨i, hi, rfl, rfl, g, hf⟩
  by_cases hlt : i < L.length
  case neg =>
    obtain rfl : i = L.length := by omega
    rw [List.take_length] at hf
    refine Ev.px tab_ok mixed hf (r19_end h h g L.length _ 0 L.length c 0 hv (slV 3 L.length) tk []) ⟨len_slV t27d _ _ _, cF (by omega), trivial⟩ fun fr2 g2 hf2 => ?_
    refine RoundEnds.out ?_
    refine EvS.pxEnd tab_ok mixed hf2 (List.cons_ne_nil _ _) (post19 h g2 _) trivial fun fr3 g3 hf3 => ?_
    have e6 : fr3.tm.tmp 6 = .int .i64 (cntR rs c tk L : Nat) := hf3.2 6 (by decide)
    exact ⟨.inr rfl, h, [.int .i64 (cntR rs c tk L : Nat)], by rw [hf3.1]; rfl, by simp only [resI, e6, Option.map_some], rfl, gk⟩
  obtain ⟨s, hs⟩ : ∃ s, L[i]? = some s := ⟨L[i], by simp [hlt]⟩
  have hs64 := hlt64 s (List.mem_of_getElem? hs)
  have hcl := cls_cl hx hs64 g0
  have hct : cntR rs c tk (L.take (i + 1)) = cntR rs c tk (L.take i) + (if (decide (clsP rs s = c) && !tk s) = true then 1 else 0) := by
    unfold cntR
    rw [List.take_add_one, hs, Option.toList_some, List.filter_append, List.length_append]
    by_cases hp : (decide (clsP rs s = c) && !tk s) = true
    · rw [if_pos hp, List.filter_cons_of_pos (by exact hp)]; rfl
    · rw [if_neg hp, List.filter_cons_of_neg (by exact hp)]; rfl
  have hcle : cntR rs c tk (L.take i) ≤ 64 := by
    unfold cntR
    refine Nat.le_trans (List.length_filter_le _ _) ?_
    rw [List.length_take]; omega
  generalize cntR rs c tk (L.take i) = k at *
  have q : ∀ tb, tk s = tb → AllP [builtinI tab .len [27] [slV 3 L.length] h = some (.int .i64 (L.length : Nat), h), IV.bool (decide ((i : Int) < L.length)) = .bool true, indexAddrI tab 27 (slV 3 L.length) (.int .i64 (i : Nat)) = some (.ptr 3 i), h.get 3 = some (.cells (nints L) 3, true), ldX (.cells (nints L) 3, true) false 1 i = some (.int .i64 (s : Nat)),
      indexAddrI tab 25 (.ptr 2 0) (.int .i64 (s : Nat)) = some (.ptr 2 s), h.get 2 = some (.cells (tkL tk) 25, true), ldX (.cells (tkL tk) 25, true) false 1 s = some (.bool tb)] := fun tb htb =>
    ⟨len_slV t27d _ _ _, cT (by omega), xN hlt, k3 (by omega), lN hs, by rw [ix_arr t25d t4s hs64]; simp, g2, by show (tkL tk)[s]? = _; rw [tkL_get hs64, htb], trivial⟩
  cases htk : tk s with
  | true =>
    rw [htk] at hct
    simp only [Bool.not_true, Bool.and_false, Bool.false_eq_true, if_false, Nat.add_zero] at hct
    obtain ⟨q1, q2, q3, q4, q5, q6, q7, q8, _⟩ := q _ htk
    refine Ev.px tab_ok mixed hf (r19_tk h h g i k s L.length c 0 hv (slV 3 L.length) tk L) ⟨q1, q2, q3, q4, q5, q6, q7, q8, cW (by omega) (by omega) (by omega), trivial⟩ fun fr2 g2 hf2 => ?_
    exact ⟨L.length - (i + 1), by omega, i + 1, by omega, rfl, rfl, g2, by rw [hct]; exact hf2⟩
  | false =>
    obtain ⟨q1, q2, q3, q4, q5, q6, q7, q8, _⟩ := q _ htk
    by_cases hc : clsP rs s = c
    · rw [if_pos (by simp [hc, htk])] at hct
      refine Ev.px tab_ok mixed hf (r19_eq h h g i k s L.length c (clsP rs s) hv (slV 3 L.length) tk L) ⟨q1, q2, q3, q4, q5, q6, q7, q8, g1, rfl, q3, q4, q5, hcl, eT hc, cW (by omega) (by omega) (by omega), cW (by omega) (by omega) (by omega), trivial⟩ fun fr2 g2 hf2 => ?_
      exact ⟨L.length - (i + 1), by omega, i + 1, by omega, rfl, rfl, g2, by rw [hct]; exact hf2⟩
    · rw [if_neg (by simp [hc]), Nat.add_zero] at hct
      refine Ev.px tab_ok mixed hf (r19_ne h h g i k s L.length c (clsP rs s) hv (slV 3 L.length) tk L) ⟨q1, q2, q3, q4, q5, q6, q7, q8, g1, rfl, q3, q4, q5, hcl, eF hc, cW (by omega) (by omega) (by omega), trivial⟩ fun fr2 g2 hf2 => ?_
      exact ⟨L.length - (i + 1), by omega, i + 1, by omega, rfl, rfl, g2, by rw [hct]; exact hf2⟩
end
theorem under_tk (m : Nat) (tk : Nat → Bool) : underLB m (tkL tk) = true := by
  unfold tkL
  generalize List.range 64 = l
  induction l with
  | nil => rfl
  | cons a l ih => simp only [List.map_cons, underLB, IV.underB, Bool.true_and, ih]
theorem ren_tk (tk : Nat → Bool) (f : Nat → Nat) : renL f (tkL tk) = tkL tk := by
  unfold tkL
  generalize List.range 64 = l
  induction l with
  | nil => rfl
  | cons a l ih => simp only [List.map_cons, renL, IV.ren, ih]
theorem free2_cl {x : Bx} {off n : Nat} {cp : Cap} {rs : List (Int × Int)} (hx : HallX x off n cp rs) (c : Int) (tk : Nat → Bool) {h : H} {b : Nat} {wr : Bool} (hb : h.get b = some (x, wr)) :
    ClEq Try.prog (.func (.func 19) [] []) [.agg [.slice b off n cp], .agg (tkL tk), .int .i64 c] h (.int .i64 ((free rs c tk).length : Nat)) h := by
  refine Cl.of_sp (first := []) (cap := []) enters19 ?_
  have := Sp.bigF (bs := [x]) (by simp [hx.fl]) (by simp [underLB, IV.underB, under_tk]) rfl (free2_sp hx c tk) (H0 := h) (fun _ => b) (fun i o ho => by
    cases i with
    | zero => simp at ho; subst ho; exact ⟨wr, hb⟩
    | succ i => simp at ho) (fun i j hi hj _ => by simp at hi hj; omega)
  simp only [renL, IV.ren, ren_tk] at this
  exact this
end Go.Proofs.Ytjhgomacanffkaa
namespace Go.Proofs.Ytjhgomacanffkaa
open Go Sx Go.RowKit

/-! ### The plain law -/
def rstR (sel : Bool) (i : Nat) (st : RSt) : RSt := bif sel then (match st.2 with
    | some (b, n) => if i % 8 ≠ 0 then (st.1, some (b, n + 1)) else (st.1 ++ [(b, n)], some (i, 1))
    | none => (st.1, some (i, 1))) else (runL st, none)
def rsR (p : Nat → Bool) : Nat → RSt
  | 0 => ([], none)
  | i + 1 => rstR (p i) i (rsR p i)
structure RRInv (F : List Nat) (p : Nat → Bool) (i : Nat) (st : RSt) : Prop where
  fl : runF (runL st) = (List.range i).filter p
  cl : ∀ r ∈ st.1, Good F r
  no : st.2 = none → 0 < i → i - 1 ∉ F
  cur : ∀ b n, st.2 = some (b, n) → 1 ≤ n ∧ b % 8 + n ≤ 8 ∧ (b % 8 ≠ 0 → b - 1 ∉ F) ∧ b + n = i
theorem rstR_inv {F : List Nat} {p : Nat → Bool} (hp : ∀ i, p i = true ↔ i ∈ F) {i : Nat} {st : RSt} (j : RRInv F p i st) : RRInv F p (i + 1) (rstR (p i) i st) := by
  obtain ⟨l, cur⟩ := st
  obtain ⟨j1, j2, j3, j4⟩ := j
  simp only at j1 j2 j3 j4
  have hf : (List.range (i + 1)).filter p = (List.range i).filter p ++ (if p i = true then [i] else []) := by
    rw [List.range_succ, List.filter_append]
    by_cases h : p i = true
    · simp [h]
    · simp [h]
  unfold rstR
  cases hs : p i with
  | true =>
    rw [hs] at hf
    simp only [if_true] at hf
    cases cur with
    | none =>
      have h0 := j3 rfl
      refine ⟨?_, j2, by simp, fun b n h => ?_⟩
      · rw [hf, ← j1]; simp [runL, runF, takeP]
      · simp only [cond_true, Option.some.injEq, Prod.mk.injEq] at h
        obtain ⟨rfl, rfl⟩ := h
        exact ⟨Nat.le_refl _, by omega, fun h8 => h0 (by omega), rfl⟩
    | some q =>
      obtain ⟨b, n⟩ := q
      obtain ⟨h1, h2, h3, h4⟩ := j4 b n rfl
      simp only [cond_true]
      by_cases h8 : i % 8 ≠ 0
      · rw [if_pos h8]
        refine ⟨?_, j2, by simp, fun b' n' h => ?_⟩
        · rw [hf, ← j1]
          simp only [runL, Option.toList_some, runF_append]
          simp [runF, takeP_succ, h4]
        · simp only [Option.some.injEq, Prod.mk.injEq] at h
          obtain ⟨rfl, rfl⟩ := h
          exact ⟨by omega, by omega, h3, by omega⟩
      · rw [if_neg h8]
        refine ⟨?_, fun r hr => ?_, by simp, fun b' n' h => ?_⟩
        · rw [hf, ← j1]
          simp only [runL, Option.toList_some, runF_append]
          simp [runF, takeP]
        · rcases List.mem_append.1 hr with hr | hr
          · exact j2 r hr
          · simp at hr; subst hr
            exact ⟨h1, h2, h3, fun h => by simp only at h; omega⟩
        · simp only [Option.some.injEq, Prod.mk.injEq] at h
          obtain ⟨rfl, rfl⟩ := h
          exact ⟨Nat.le_refl _, by omega, fun h => by omega, rfl⟩
  | false =>
    have hn : i ∉ F := fun hm => by have := (hp i).2 hm; rw [hs] at this; cases this
    rw [hs] at hf
    simp only [Bool.false_eq_true, if_false, List.append_nil] at hf
    simp only [cond_false]
    refine ⟨?_, fun r hr => ?_, fun _ _ => by rw [Nat.add_sub_cancel]; exact hn, by simp⟩
    · rw [hf, ← j1]; simp [runL]
    · simp only [runL] at hr
      rcases List.mem_append.1 hr with hr | hr
      · exact j2 r hr
      · obtain ⟨b, n⟩ := r
        obtain ⟨h1, h2, h3, h4⟩ := j4 b n (by simpa using hr)
        exact ⟨h1, h2, h3, fun _ => by simp only; rw [h4]; exact hn⟩
theorem rsR_inv {F : List Nat} {p : Nat → Bool} (hp : ∀ i, p i = true ↔ i ∈ F) : ∀ i, RRInv F p i (rsR p i)
  | 0 => ⟨rfl, by simp [rsR], fun _ h => by omega, by simp [rsR]⟩
  | i + 1 => rstR_inv hp (rsR_inv hp i)
theorem rsR_eq {rs : List (Int × Int)} (h8 : rs.length ≤ 8) (c : Int) (tk : Nat → Bool) : runL (rsR (selR rs c tk) 64) = runs rs c tk := by
  have j := rsR_inv (F := free rs c tk) (p := selR rs c tk) (fun i => selR_iff) 64
  have hfl := j.fl
  rw [freeR_eq h8] at hfl
  refine good_unique (F := free rs c tk) _ _ (fun r hr => ?_) (runs_good rs c tk) (by rw [hfl, runs_flat]) (fun s hs => by rwa [hfl] at hs)
  unfold runL at hr
  rcases List.mem_append.1 hr with hr | hr
  · exact j.cl r hr
  · obtain ⟨b, n⟩ := r
    obtain ⟨h1, h2, h3, h4⟩ := j.cur b n (by simpa using hr)
    exact ⟨h1, h2, h3, fun _ hm => by simp only at hm; have := free_lt h8 hm; omega⟩
theorem rsR_length (p : Nat → Bool) : ∀ i, (runL (rsR p i)).length ≤ i
  | 0 => Nat.le_refl _
  | i + 1 => by
    have ih := rsR_length p i
    rw [rsR]
    generalize rsR p i = st at *
    obtain ⟨l, cur⟩ := st
    unfold rstR
    cases p i with
    | true =>
      cases cur with
      | none => simp [runL] at ih ⊢; omega
      | some q =>
        simp only [cond_true]
        split
        · simp [runL] at ih ⊢; omega
        · simp [runL] at ih ⊢; omega
    | false => simp [runL] at ih ⊢; omega
theorem rsR_bound (p : Nat → Bool) : ∀ i, ∀ r ∈ runL (rsR p i), r.1 + r.2 ≤ i ∧ 1 ≤ r.2
  | 0, r, h => by simp [rsR, runL] at h
  | i + 1, r, h => by
    have ih := rsR_bound p i
    rw [rsR] at h
    generalize rsR p i = st at *
    obtain ⟨l, cur⟩ := st
    unfold rstR at h
    cases hp : p i with
    | true =>
      rw [hp] at h
      cases cur with
      | none =>
        simp only [cond_true, runL, Option.toList_some, List.mem_append, List.mem_singleton] at h ih
        rcases h with h | rfl
        · have := ih r (by simpa using h); omega
        · simp
      | some q =>
        have hq := ih q (by simp [runL])
        simp only [cond_true] at h
        split at h
        · simp only [runL, Option.toList_some, List.mem_append, List.mem_singleton] at h ih
          rcases h with h | rfl
          · have := ih r (.inl h); omega
          · simp only; omega
        · simp only [runL, Option.toList_some, List.mem_append, List.mem_singleton] at h ih
          rcases h with (h | rfl) | rfl
          · have := ih r (.inl h); omega
          · simp only; omega
          · simp
    | false =>
      rw [hp] at h
      have := ih r (by simpa [runL] using h)
      omega

/-! ### The contract -/
theorem runs2_sp {x : Bx} {off n : Nat} {cp : Cap} {rs : List (Int × Int)} (hx : HallX x off n cp rs) (c : Int) (tk : Nat → Bool) : Sp Try.prog 34 [.agg [.slice 0 off n cp], .int .i64 c, .agg (tkL tk)] (boxH [x]) fun v' h' => ∃ s, v' = slV s (runs rs c tk).length ∧
      ((runs rs c tk).length = 0 ∨ (h'.get s = some (.cells (rcells (runs rs c tk)) 26, true) ∧ [x].length ≤ s)) ∧ ∀ i y, (boxH [x]).get i = some y → h'.get i = some y := by
  have h8 : rs.length ≤ 8 := by have := hx.len; omega
  rw [← rsR_eq h8]
  let hv : IV := .slice 0 off n cp
  let hb : H := ((boxH [x]).new (.cells [hv] 24)).new (.cells (tkL tk) 25)
  have hd0 : ∀ i y, hb.get i = some y → i < hb.next := dom_new (dom_new dom_boxH)
  have k0 : hb.get 0 = some (x, false) := by kernel_rfl
  have k1 : hb.get 1 = some (.cells [hv] 24, true) := by kernel_rfl
  have k2 : hb.get 2 = some (.cells (tkL tk) 25, true) := by kernel_rfl
  have hlen := rsR_length (selR rs c tk)
  have hbnd := rsR_bound (selR rs c tk)
  have hsel : ∀ i, selR rs c tk i = (decide (clsP rs i = c) && hasP rs i && !tk i) := fun i => rfl
  have hst : ∀ i, rsR (selR rs c tk) (i + 1) = rstR (selR rs c tk i) i (rsR (selR rs c tk) i) := fun i => rfl
  have hs0 : rsR (selR rs c tk) 0 = ([], none) := rfl
  generalize rsR (selR rs c tk) = S at *
  generalize selR rs c tk = P at *
  refine Sp.of_ev tab_ok Try.func34 (c := bodyC Try.prog 34) (by kernel_rfl) (Nat.le_of_ble_eq_true rfl) ?_
  show Ev Try.prog none 58 (bodyC Try.prog 34) (BodyQ tab [.tmp 6] _) _ _
  refine Ev.of_flat l34_eq ?_
  refine EvS.px tab_ok mixed (FrIs.start 58 _) (by simp) (pre34 x c hv tk) trivial fun fr g hf => ?_
  refine EvS.loop (fun t fr h => ∃ i s, i ≤ 64 ∧ t = 64 - i ∧ JL hb (rcells (runL (S i))) 26 (runL (S i)).length h s ∧ ∃ g, FrIs 58 fr (ov [1, 3, 5, 7, 8, 9] (lv34 c (slV s (runL (S i)).length) (S i).2.isSome i) g) []) 64
    ⟨0, 0, by omega, by omega, by rw [hs0]; exact JL.start hd0 _ _ _, g, by rw [hs0]; exact hf⟩ ?_
  rintro t fr h ⟨i, s, hi, rfl, j, g, hf⟩
  have hli := hlen i
  by_cases hlt : i < 64
  case neg =>
    obtain rfl : i = 64 := by omega
    refine Ev.px tab_ok mixed hf (r34_end h h g 64 0 0 0 c 0 hv _ .nilslice tk [] [] true true true true _) ⟨cF (by omega), trivial⟩ fun fr2 g2 hf2 => ?_
    refine RoundEnds.out ?_
    refine EvS.pxEnd tab_ok mixed hf2 (List.cons_ne_nil _ _) (post34 h g2 _) trivial fun fr3 g3 hf3 => ?_
    have e6 : fr3.tm.tmp 6 = slV s (runL (S 64)).length := hf3.2 6 (by decide)
    exact ⟨.inr rfl, h, [slV s (runL (S 64)).length], by rw [hf3.1]; rfl, by simp only [resI, e6, Option.map_some], s, rfl, j.gs.imp id fun ⟨a, _, c⟩ => ⟨c, Nat.le_trans (by show 1 ≤ 3; decide) a⟩, keep0 (j.keep _ _ k0)⟩
  have hh := has_cl hx hlt (j.keep _ _ k0)
  have hc := cls_cl hx hlt (j.keep _ _ k0)
  have hS := hst i
  rw [hsel] at hS
  -- a seat that does not count
  have skip : (decide (clsP rs i = c) && hasP rs i && !tk i) = false → S (i + 1) = (runL (S i), none) ∧ runL (S (i + 1)) = runL (S i) := fun e => by
    rw [e] at hS
    have : S (i + 1) = (runL (S i), none) := hS
    exact ⟨this, by rw [this]; simp [runL]⟩
  have fin : (decide (clsP rs i = c) && hasP rs i && !tk i) = false → ∀ (fr2 : Fr) (g2 : Nat → IV), FrIs 58 fr2 (ov [1, 3, 5, 7, 8, 9] (lv34 c (slV s (runL (S i)).length) false (i + 1)) g2) [] →
      ∃ m', m' < 64 - i ∧ ∃ i s, i ≤ 64 ∧ m' = 64 - i ∧ JL hb (rcells (runL (S i))) 26 (runL (S i)).length h s ∧ ∃ g, FrIs 58 fr2 (ov [1, 3, 5, 7, 8, 9] (lv34 c (slV s (runL (S i)).length) (S i).2.isSome i) g) [] := fun e fr2 g2 hf2 => by
    obtain ⟨e1, e2⟩ := skip e
    refine ⟨64 - (i + 1), by omega, i + 1, s, by omega, rfl, by rw [e2]; exact j, g2, ?_⟩
    rw [e2, e1]; exact hf2
  by_cases ec : clsP rs i = c
  case neg =>
    refine Ev.px tab_ok mixed hf (r34_ne h h g i 0 0 0 c _ hv _ .nilslice tk [] [] true true true _) ⟨cT (by omega), j.keep _ _ k1, rfl, hc, eF ec, cW (by omega) (by omega) (by omega), trivial⟩ fun fr2 g2 hf2 => ?_
    exact fin (by simp [ec]) fr2 g2 hf2
  cases eh : hasP rs i with
  | false =>
    rw [eh] at hh
    refine Ev.px tab_ok mixed hf (r34_no h h g i 0 0 0 c _ hv _ .nilslice tk [] [] true true _) ⟨cT (by omega), j.keep _ _ k1, rfl, hc, eT ec, j.keep _ _ k1, rfl, hh, cW (by omega) (by omega) (by omega), trivial⟩ fun fr2 g2 hf2 => ?_
    exact fin (by simp [eh]) fr2 g2 hf2
  | true =>
  rw [eh] at hh
  have hix : indexAddrI tab 25 (.ptr 2 0) (.int .i64 (i : Nat)) = some (.ptr 2 i) := by rw [ix_arr t25d t4s hlt]; simp
  have htl : ∀ t, tk i = t → ldX (.cells (tkL tk) 25, true) false 1 i = some (.bool t) := fun t ht => by
    show (tkL tk)[i]? = _
    rw [tkL_get hlt, ht]
  cases et : tk i with
  | true =>
    refine Ev.px tab_ok mixed hf (r34_tk h h g i 0 0 0 c _ hv _ .nilslice tk [] [] true _) ⟨cT (by omega), j.keep _ _ k1, rfl, hc, eT ec, j.keep _ _ k1, rfl, hh, hix, j.keep _ _ k2, htl _ et, cW (by omega) (by omega) (by omega), trivial⟩ fun fr2 g2 hf2 => ?_
    exact fin (by simp [et]) fr2 g2 hf2
  | false =>
  have e1 : (decide (clsP rs i = c) && hasP rs i && !tk i) = true := by simp [ec, eh, et]
  rw [e1] at hS
  have bnd := hbnd i
  have happ : ∀ (l : List (Nat × Nat)), runL (S (i + 1)) = l ++ [(i, 1)] → l = runL (S i) → ∃ h2, builtinI tab .append [53, 53] [slV s (runL (S i)).length, .slice h.next 0 1 (.hard 1)] (h.new (.cells (rc (i, 1)) 26)) = some (slV (h.next + 1) ((runL (S i)).length + 1), h2) ∧
      JL hb (rcells (runL (S (i + 1)))) 26 (runL (S (i + 1))).length h2 (h.next + 1) := fun l hl e => by
    subst e
    obtain ⟨h2, ha, j2⟩ := JL.app (news := rc (i, 1)) hd0 j t53d t26i (by decide) (by decide) (by omega) (by rw [rcells_length]) rfl rfl
    refine ⟨h2, ha, ?_⟩
    rw [hl, rcells_append, List.length_append]
    exact j2
  cases hcur : (S i).2 with
  | none =>
    have hr : S (i + 1) = ((S i).1, some (i, 1)) := by
      rw [hS]; unfold rstR; rw [hcur]; rfl
    have hrl : runL (S (i + 1)) = runL (S i) ++ [(i, 1)] := by rw [hr]; simp [runL, hcur]
    obtain ⟨h2, ha, j2⟩ := happ _ hrl rfl
    rw [hcur] at hf
    refine Ev.px tab_ok mixed hf (r34_new h h2 g i 0 0 0 c _ hv _ _ tk [] [] true) ⟨cT (by omega), j.keep _ _ k1, rfl, hc, eT ec, j.keep _ _ k1, rfl, hh, hix, j.keep _ _ k2, htl _ et, ha, cW (by omega) (by omega) (by omega), trivial⟩ fun fr2 g2 hf2 => ?_
    refine ⟨64 - (i + 1), by omega, i + 1, h.next + 1, by omega, rfl, j2, g2, ?_⟩
    rw [hrl, List.length_append, hr]; exact hf2
  | some q =>
    obtain ⟨b, m⟩ := q
    rw [hcur] at hf
    by_cases h8' : i % 8 ≠ 0
    case neg =>
      have hr : S (i + 1) = ((S i).1 ++ [(b, m)], some (i, 1)) := by
        rw [hS]; unfold rstR; rw [hcur]; simp only [cond_true]; rw [if_neg h8']
      have hrl : runL (S (i + 1)) = runL (S i) ++ [(i, 1)] := by rw [hr]; simp [runL, hcur]
      obtain ⟨h2, ha, j2⟩ := happ _ hrl rfl
      refine Ev.px tab_ok mixed hf (r34_z h h2 g i 0 0 0 c _ hv _ _ tk [] []) ⟨cT (by omega), j.keep _ _ k1, rfl, hc, eT ec, j.keep _ _ k1, rfl, hh, hix, j.keep _ _ k2, htl _ et, rfl, cF (by omega), ha, cW (by omega) (by omega) (by omega), trivial⟩ fun fr2 g2 hf2 => ?_
      refine ⟨64 - (i + 1), by omega, i + 1, h.next + 1, by omega, rfl, j2, g2, ?_⟩
      rw [hrl, List.length_append, hr]; exact hf2
    · have hr : S (i + 1) = ((S i).1, some (b, m + 1)) := by
        rw [hS]; unfold rstR; rw [hcur]; simp only [cond_true]; rw [if_pos h8']
      have hl0 : runL (S i) = (S i).1 ++ [(b, m)] := by simp [runL, hcur]
      have hl1 : runL (S (i + 1)) = (S i).1 ++ [(b, m + 1)] := by rw [hr]; simp [runL]
      have hlen0 : (runL (S i)).length = (S i).1.length + 1 := by rw [hl0]; simp
      have hlen1 : (runL (S (i + 1))).length = (S i).1.length + 1 := by rw [hl1]; simp
      have hbm := bnd (b, m) (by rw [hl0]; simp)
      simp only at hbm
      have gs := j.get (by omega)
      have lst := rcells_last (S i).1 b m
      have lset := rcells_set (S i).1 b m (m + 1)
      rw [← hl0] at lst lset
      rw [← hl1] at lset
      rw [hlen0] at hf
      have ix1 : indexAddrI tab 53 (slV s ((S i).1.length + 1)) (.int .i64 ((S i).1.length : Nat)) = some (.ptr s ((S i).1.length * 2)) := by
        rw [slV_pos (by omega), ix_sl t53d t26s (by omega)]; simp
      have ix2 : indexAddrI tab 26 (.ptr s ((S i).1.length * 2)) (.int .i64 1) = some (.ptr s ((S i).1.length * 2 + 1)) := by
        have := ix_arr (b := s) (o := (S i).1.length * 2) (k := .i64) (i := 1) t26d t3s (by decide)
        simpa using this
      refine Ev.px tab_ok mixed hf (r34_inc h h g i (S i).1.length s m c _ hv _ .nilslice tk (rcells (runL (S i))) (rcells (runL (S (i + 1))))) ⟨cT (by omega), j.keep _ _ k1, rfl, hc, eT ec, j.keep _ _ k1, rfl, hh, hix, j.keep _ _ k2, htl _ et, rfl, cT (by omega), len_slV t53d _ _ _, cW (by omega) (by omega) (by omega), ix1, ix2, gs, ?_, cW (by omega) (by omega) (by omega), ix1, ix2, gs, ?_, cW (by omega) (by omega) (by omega), trivial⟩ fun fr2 g2 hf2 => ?_
      · show (rcells (runL (S i)))[(S i).1.length * 2 + 1]? = _
        rw [Nat.mul_comm]; exact lst
      · rw [Nat.mul_comm]; exact lset
      · refine ⟨64 - (i + 1), by omega, i + 1, s, by omega, rfl, ?_, g2, ?_⟩
        · rw [hlen1, ← hlen0]; exact JL.put hd0 j (by omega)
        · rw [hlen1, hr]; exact hf2
theorem runs2_cl {x : Bx} {off n : Nat} {cp : Cap} {rs : List (Int × Int)} (hx : HallX x off n cp rs) (c : Int) (tk : Nat → Bool) {h : H} {b : Nat} {wr : Bool} (hb : h.get b = some (x, wr)) :
    ClEq Try.prog (.func (.func 34) [] []) [.agg [.slice b off n cp], .int .i64 c, .agg (tkL tk)] h (slV h.next (runs rs c tk).length) (newL h (runs rs c tk).length (rcells (runs rs c tk)) 26) := by
  refine Cl.of_sp (first := []) (cap := []) enters34 ?_
  have := Sp.list (bs := [x]) (by simp [hx.fl]) (by simp [underLB, IV.underB, under_tk]) (rcells_flat _) (runs2_sp hx c tk) (H0 := h) (fun _ => b) (fun i o ho => by
    cases i with
    | zero => simp at ho; subst ho; exact ⟨wr, hb⟩
    | succ i => simp at ho) (fun i j hi hj _ => by simp at hi hj; omega)
  simp only [renL, IV.ren, ren_tk] at this
  exact this
end Go.Proofs.Ytjhgomacanffkaa
