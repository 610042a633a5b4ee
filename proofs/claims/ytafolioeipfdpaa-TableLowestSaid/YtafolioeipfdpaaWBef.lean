/- What 'before' answers. -/
import Derived.Test.YtafolioeipfdpaaWFns
import Derived.Test.YtafolioeipfdpaaSxSymb
namespace Go.Proofs.Ytafolioeipfdpaa
open Go Sx Go.RowKit

def rows (off : Nat) (gs : List Int) : Option (Bx × Bool) := some (.ro off (gs.map fun z => .int .u16 z), false)
def pg (gs : List Int) (i : Nat) : Nat := (gs.getD i 0).toNat % 960
def U16 (gs : List Int) : Prop := ∀ z ∈ gs, 0 ≤ z ∧ z < 65536

theorem getD_u16 {gs : List Int} (hu : U16 gs) (i : Nat) : 0 ≤ gs.getD i 0 ∧ gs.getD i 0 < 65536 := by
  by_cases hi : i < gs.length
  · rw [List.getD_eq_getElem?_getD, List.getElem?_eq_getElem hi]; exact hu _ (List.getElem_mem hi)
  · rw [List.getD_eq_getElem?_getD, List.getElem?_eq_none (by omega)]; simp
theorem ro_ld {gs : List Int} {off i : Nat} (hi : i < gs.length) : roC false off (gs.map fun z => IV.int .u16 z) (off + i) = some (.int .u16 (gs.getD i 0)) := by
  unfold roC
  rw [show Nat.ble off (off + i) = true from Nat.ble_eq_true_of_le (by omega)]
  simp only [cond_false, cond_true]
  rw [show off + i - off = i by omega]
  simp [hi, List.getD_eq_getElem?_getD]
theorem w_conv {gs : List Int} (hu : U16 gs) (i : Nat) : IV.int .i64 (IntKind.wrap .i64 (gs.getD i 0)) = .int .i64 (gs.getD i 0) := by
  have := getD_u16 hu i
  rw [wrap64 (by omega) (by omega)]
theorem w_rem {gs : List Int} (hu : U16 gs) (i : Nat) : IV.int .i64 ((gs.getD i 0).tmod 960) = .int .i64 (pg gs i : Nat) := by
  have := getD_u16 hu i
  congr 1
  unfold pg
  rw [Int.tmod_eq_emod_of_nonneg this.1]
  omega
theorem pg_lt (gs : List Int) (i : Nat) : pg gs i < 960 := Nat.mod_lt _ (by omega)
theorem w_add (gs : List Int) (i : Nat) : IV.int .i64 (IntKind.wrap .i64 (1 + (pg gs i : Int))) = .int .i64 ((pg gs i : Int) + 1) := by
  have := pg_lt gs i
  rw [wrap64 (by omega) (by omega), Int.add_comm]
theorem w_inc {k : Nat} (h : k < 4611686018427387904) : IV.int .i64 (IntKind.wrap .i64 ((k : Int) + 1)) = .int .i64 ((k + 1 : Nat) : Int) := by
  rw [wrap64 (by omega) (by omega)]; simp

/-! ### before -/
noncomputable def l9 : List Code := flat (bodyC Try.prog 9)
theorem l9_eq : flat (bodyC Try.prog 9) = l9.take 2 ++ (.block 0 (.loop (loopAt l9 2)) :: l9.drop 3) := by kernel_rfl
theorem pre9 (s : IV) (p : Int) (hh : H) : psR Try.prog tab (fun _ _ => none) 50 9 none 21 (l9.take 2) (canon 21 (fun j => [s, IV.int .i64 p].getD j undefI) []) hh [0, 1, 5] = some (.normal, [s, .int .i64 p, .int .i64 0], hh, [], []) := by kernel_rfl
theorem post9 (s : IV) (p k : Int) (g : Nat → IV) (hh : H) : psR Try.prog tab (fun _ _ => none) 50 9 none 21 (l9.drop 3) (canon 21 (ov [0, 1, 5] [s, .int .i64 p, .int .i64 k] g) []) hh [4] = some (.ret, [.bool false], hh, [], []) := by kernel_rfl

def oc9 (gs : List Int) (off k : Nat) (lt hit : Bool) : Nat → Nat → Option It := fun f t => match f, t with
  | 9, 9 => some (.w (.bool lt))
  | 9, 14 => some (.o (.ptr 0 (off + k)))
  | 9, 15 => some (.o (.int .u16 (gs.getD k 0)))
  | 9, 16 => some (.w (.int .i64 (gs.getD k 0)))
  | 9, 17 => some (.w (.int .i64 (pg gs k : Nat)))
  | 9, 18 => some (.w (.int .i64 ((pg gs k : Int) + 1)))
  | 9, 20 => some (.w (.bool hit))
  | 9, 11 => some (.w (.int .i64 ((k + 1 : Nat) : Int)))
  | _, _ => none

theorem round9_end (off len cap k : Nat) (p : Int) (gs : List Int) (g : Nat → IV) (hh : H) :
    pxR Try.prog tab (oc9 gs off k false false) 50 9 none 21 (loopAt l9 2) (canon 21 (ov [0, 1, 5] [.slice 0 off len (.hard cap), .int .i64 p, .int .i64 k] g) []) hh [0, 1, 5] =
      some (.exit 0, [.slice 0 off len (.hard cap), .int .i64 p, .int .i64 k], hh, [], [IV.bool (decide ((k : Int) < len)) = .bool false]) := by kernel_rfl
theorem round9_hit (off len cap k : Nat) (p : Int) (gs : List Int) (g : Nat → IV) (a : Nat → Int) (d : Int) :
    pxR Try.prog tab (oc9 gs off k true true) 50 9 none 21 (loopAt l9 2) (canon 21 (ov [0, 1, 5] [.slice 0 off len (.hard cap), .int .i64 p, .int .i64 k] g) []) (hp (rows off gs) a d) [4] =
      some (.ret, [.bool true], hp (rows off gs) a d, [], [IV.bool (decide ((k : Int) < len)) = .bool true,
        indexAddrI tab 23 (.slice 0 off len (.hard cap)) (.int .i64 k) = some (.ptr 0 (off + k)),
        roC false off (gs.map fun z => .int .u16 z) (off + k) = some (.int .u16 (gs.getD k 0)),
        IV.int .i64 (IntKind.wrap .i64 (gs.getD k 0)) = .int .i64 (gs.getD k 0),
        IV.int .i64 ((gs.getD k 0).tmod 960) = .int .i64 (pg gs k : Nat),
        IV.int .i64 (IntKind.wrap .i64 (1 + (pg gs k : Int))) = .int .i64 ((pg gs k : Int) + 1),
        IV.bool (((pg gs k : Int) + 1) == p) = .bool true]) := by kernel_rfl
theorem round9_go (off len cap k : Nat) (p : Int) (gs : List Int) (g : Nat → IV) (a : Nat → Int) (d : Int) :
    pxR Try.prog tab (oc9 gs off k true false) 50 9 none 21 (loopAt l9 2) (canon 21 (ov [0, 1, 5] [.slice 0 off len (.hard cap), .int .i64 p, .int .i64 k] g) []) (hp (rows off gs) a d) [0, 1, 5] =
      some (.normal, [.slice 0 off len (.hard cap), .int .i64 p, .int .i64 ((k + 1 : Nat) : Int)], hp (rows off gs) a d, [], [IV.bool (decide ((k : Int) < len)) = .bool true,
        indexAddrI tab 23 (.slice 0 off len (.hard cap)) (.int .i64 k) = some (.ptr 0 (off + k)),
        roC false off (gs.map fun z => .int .u16 z) (off + k) = some (.int .u16 (gs.getD k 0)),
        IV.int .i64 (IntKind.wrap .i64 (gs.getD k 0)) = .int .i64 (gs.getD k 0),
        IV.int .i64 ((gs.getD k 0).tmod 960) = .int .i64 (pg gs k : Nat),
        IV.int .i64 (IntKind.wrap .i64 (1 + (pg gs k : Int))) = .int .i64 ((pg gs k : Int) + 1),
        IV.bool (((pg gs k : Int) + 1) == p) = .bool false,
        IV.int .i64 (IntKind.wrap .i64 ((k : Int) + 1)) = .int .i64 ((k + 1 : Nat) : Int)]) := by kernel_rfl

theorem before_sp (off i cap : Nat) (p : Nat) (gs : List Int) (a : Nat → Int) (d : Int) (hu : U16 gs) (hi : i ≤ gs.length) (hs : i < 4611686018427387904) (b : Bool) (hb : b = true ↔ ∃ k, k < i ∧ pg gs k = p) :
    SpEq Try.prog 9 [.slice 0 off i (.hard cap), .int .i64 ((p : Int) + 1)] (hp (rows off gs) a d) (.bool b) (hp (rows off gs) a d) := by
  refine Sp.of_ev tab_ok Try.func9 (c := bodyC Try.prog 9) (by kernel_rfl) (Nat.le_of_ble_eq_true rfl) ?_
  show Ev Try.prog none 21 (bodyC Try.prog 9) (BodyQ tab [.tmp 4] _) _ _
  refine Ev.of_flat l9_eq ?_
  refine EvS.px tab_ok mixed (FrIs.start 21 _) (by simp) (pre9 _ _ _) trivial fun fr g hf => ?_
  refine EvS.loop (fun m fr h => h = hp (rows off gs) a d ∧ ∃ k, k ≤ i ∧ m = i - k ∧ (∀ k', k' < k → pg gs k' ≠ p) ∧ ∃ g, FrIs 21 fr (ov [0, 1, 5] [.slice 0 off i (.hard cap), .int .i64 ((p : Int) + 1), .int .i64 (k : Nat)] g) []) i
    ⟨rfl, 0, by omega, by omega, fun k' hk' => by omega, g, hf⟩ ?_
  rintro m fr h ⟨rfl, k, hk, rfl, hno, g, hf⟩
  by_cases hlt : k < i
  · have hix : indexAddrI tab 23 (.slice 0 off i (.hard cap)) (.int .i64 k) = some (.ptr 0 (off + k)) := by rw [ix_sl t23 t22 hlt]; simp
    by_cases hp1 : pg gs k = p
    · refine Ev.px tab_ok mixed hf (round9_hit off i cap k _ gs g a d) ⟨by rw [decide_eq_true (by omega)], hix, ro_ld (by omega), w_conv hu k, w_rem hu k, w_add gs k, by simp [hp1], trivial⟩ fun fr' g' hf' => ?_
      refine bodyQ_tmp hf' (by decide) ?_ (.inr rfl)
      rw [hb.2 ⟨k, hlt, hp1⟩]; rfl
    · refine Ev.px tab_ok mixed hf (round9_go off i cap k _ gs g a d) ⟨by rw [decide_eq_true (by omega)], hix, ro_ld (by omega), w_conv hu k, w_rem hu k, w_add gs k, by simp; omega, w_inc (by omega), trivial⟩ fun fr' g' hf' => ?_
      exact ⟨i - (k + 1), by omega, rfl, k + 1, by omega, rfl, fun k' hk' => by
        by_cases e : k' = k
        · rw [e]; exact hp1
        · exact hno k' (by omega), g', hf'⟩
  · refine Ev.px tab_ok mixed hf (round9_end off i cap k _ gs g _) ⟨by rw [decide_eq_false (by omega)], trivial⟩ fun fr' g' hf' => ?_
    refine RoundEnds.out (EvS.pxEnd tab_ok mixed hf' (List.cons_ne_nil _ _) (post9 _ _ _ g' _) trivial fun fr2 g2 hf2 => ?_)
    refine bodyQ_tmp hf2 (by decide) ?_ (.inr rfl)
    have : b = false := by
      cases b with
      | false => rfl
      | true =>
        obtain ⟨k', h1, h2⟩ := hb.1 rfl
        exact absurd h2 (hno k' (by omega))
    rw [this]; rfl
end Go.Proofs.Ytafolioeipfdpaa
