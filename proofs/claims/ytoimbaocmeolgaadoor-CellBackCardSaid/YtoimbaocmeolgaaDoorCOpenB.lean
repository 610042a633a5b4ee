/- The program's Open: the conditions of its six ends, shown. -/
import Derived.Test.YtoimbaocmeolgaaDoorCOpen
namespace Go.Proofs.YtoimbaocmeolgaaDoor
open Go Sx Go.RowKit

structure Good (d : OD) : Prop where
  len : d.s.length = 256
  tail : d.s.drop 252 = [d.b0, d.b1, d.b2, d.b3]
  N : d.N = ((d.b0.toNat * 256 + d.b1.toNat) * 256 + d.b2.toNat) * 256 + d.b3.toNat
  k : d.k = (d.s.getD 0 0).toNat
  n : d.n = (d.s.getD 1 0).toNat
  z : d.z = (d.s.take 252).drop (2 + d.n)
  body : d.body = (d.s.take (2 + d.n)).drop 2

theorem good_of {s : List UInt8} (h : s.length = 256) (j : Nat) : ∃ d : OD, Good d ∧ d.s = s ∧ d.j = j := by
  have hl : (s.drop 252).length = 4 := by simp [h]
  match hd : s.drop 252, hl with
  | [b0, b1, b2, b3], _ =>
    exact ⟨⟨s, b0, b1, b2, b3, ((b0.toNat * 256 + b1.toNat) * 256 + b2.toNat) * 256 + b3.toNat, (s.getD 0 0).toNat, (s.getD 1 0).toNat, j, (s.take 252).drop (2 + (s.getD 1 0).toNat), (s.take (2 + (s.getD 1 0).toNat)).drop 2⟩,
      ⟨h, hd, rfl, rfl, rfl, rfl, rfl⟩, rfl, rfl⟩

theorem sl_gen {s : List UInt8} {lo hi : Option IV} {l u : Nat} (hlo : boundI lo 0 = some l) (hhi : boundI hi s.length = some u) (h1 : l ≤ u) (h2 : u ≤ s.length) (hh : H) : sliceI tab 9 (.str s) lo hi none hh = some (.str ((s.take u).drop l)) := by
  have ht9 := t9d
  unfold sliceI
  cases ht : tab.get 9 with
  | none => rw [ht] at ht9; cases ht9
  | some ty =>
    rw [ht] at ht9
    simp only [Option.map_some, Option.some.injEq] at ht9
    simp only [ht9, hlo, hhi]
    rw [show (Nat.ble l u && Nat.ble u s.length) = true by simp [Nat.ble_eq, h1, h2]]
    rfl
theorem bnd (n : Nat) (d : Nat) : boundI (some (IV.int .i64 n)) d = some n := by simp [boundI]

theorem stp_eq {x : Nat} (hx : x < 16777216) (b : UInt8) : stp x b = ((x * 256 + b.toNat : Nat) : Int) := by
  have hb := b.toNat_lt
  unfold stp
  rw [wrapu64 (n := (x : Int)) (by omega) (by omega), wrapu64 (n := (b.toNat : Int)) (by omega) (by omega)]
  have e1 : (x : Int) * 2 ^ (min (8 : Int).toNat 64) = ((x * 256 : Nat) : Int) := by
    rw [show (2 : Int) ^ (min (8 : Int).toNat 64) = 256 from rfl]; omega
  rw [e1, wrapu64 (n := ((x * 256 : Nat) : Int)) (by omega) (by omega)]
  have e2 : ((BitVec.ofInt 64 ((x * 256 : Nat) : Int) ||| BitVec.ofInt 64 (b.toNat : Int)).toNat : Int) = ((x * 256 + b.toNat : Nat) : Int) := by
    congr 1
    rw [BitVec.toNat_or, BitVec.ofInt_natCast, BitVec.ofInt_natCast, BitVec.toNat_ofNat, BitVec.toNat_ofNat, Nat.mod_eq_of_lt (by omega), Nat.mod_eq_of_lt (by omega)]
    have := Nat.shiftLeft_add_eq_or_of_lt (i := 8) (b := b.toNat) (by omega) x
    rw [Nat.shiftLeft_eq] at this
    exact this.symm
  rw [e2, wrapu64 (by omega) (by omega), wrapu32 (by omega) (by omega)]

theorem be_bytes (b0 b1 b2 b3 : UInt8) : be (((b0.toNat * 256 + b1.toNat) * 256 + b2.toNat) * 256 + b3.toNat) 4 = [b0, b1, b2, b3] := by
  have h0 := b0.toNat_lt; have h1 := b1.toNat_lt; have h2 := b2.toNat_lt; have h3 := b3.toNat_lt
  simp only [be, List.nil_append, List.cons_append]
  have q : ∀ a b : Nat, b < 256 → (a * 256 + b) / 256 = a ∧ (a * 256 + b) % 256 = b := fun a b hb => by omega
  have e0 : b0.toNat % 256 = b0.toNat := Nat.mod_eq_of_lt h0
  rw [(q _ _ h3).1, (q _ _ h3).2, (q _ _ h2).1, (q _ _ h2).2, (q _ _ h1).1, (q _ _ h1).2, e0]
  simp
theorem be_inj {n m : Nat} (hn : n < 4294967296) (hm : m < 4294967296) (h : be n 4 = be m 4) : n = m := by
  simp only [be, List.nil_append, List.cons_append, List.cons.injEq, and_true] at h
  have key : ∀ a b : Nat, a < 256 → b < 256 → UInt8.ofNat a = UInt8.ofNat b → a = b := fun a b ha hb e => by
    have := congrArg UInt8.toNat e
    rw [UInt8.toNat_ofNat', UInt8.toNat_ofNat'] at this
    omega
  have a0 := key _ _ (by omega) (by omega) h.1
  have a1 := key _ _ (by omega) (by omega) h.2.1
  have a2 := key _ _ (by omega) (by omega) h.2.2.1
  have a3 := key _ _ (by omega) (by omega) h.2.2.2
  omega

section
variable {d : OD} (g : Good d)
include g
theorem Good.Nlt : d.N < 4294967296 := by
  have h0 := d.b0.toNat_lt; have h1 := d.b1.toNat_lt; have h2 := d.b2.toNat_lt; have h3 := d.b3.toNat_lt
  have := g.N
  omega
theorem Good.beN : be d.N 4 = d.s.drop 252 := by rw [g.N, be_bytes, g.tail]
theorem Good.klt : d.k < 256 := by rw [g.k]; exact u8lt _ _
theorem Good.nlt : d.n < 256 := by rw [g.n]; exact u8lt _ _
theorem Good.c_len : IV.bool ((d.s.length : Int) == 256) = .bool true := by rw [g.len]; rfl
theorem Good.c_tail : sliceI tab 9 (.str d.s) (some (.int .i64 252)) none none ⟨.leaf, 0⟩ = some (.str [d.b0, d.b1, d.b2, d.b3]) := by
  rw [sl_gen (l := 252) (u := 256) (show boundI (some (IV.int .i64 252)) 0 = some 252 from rfl) (by rw [g.len]; rfl) (by omega) (by rw [g.len]; exact Nat.le_refl _), List.take_of_length_le (by rw [g.len]; exact Nat.le_refl _), g.tail]
theorem Good.c_N : IV.int .u32 (stp (stp (stp (stp 0 d.b0) d.b1) d.b2) d.b3) = .int .u32 d.N := by
  have h0 := d.b0.toNat_lt; have h1 := d.b1.toNat_lt; have h2 := d.b2.toNat_lt
  have e0 : stp 0 d.b0 = ((d.b0.toNat : Nat) : Int) := by
    have := stp_eq (x := 0) (by omega) d.b0
    simpa using this
  rw [e0, stp_eq (by omega), stp_eq (by omega), stp_eq (by omega), g.N]
theorem Good.c_pre : sliceI tab 9 (.str d.s) none (some (.int .i64 252)) none ⟨.leaf, 0⟩ = some (.str (d.s.take 252)) := by
  rw [sl_gen (l := 0) (u := 252) rfl (show boundI (some (IV.int .i64 252)) _ = some 252 from rfl) (by omega) (by rw [g.len]; omega), List.drop_zero]
omit g in
theorem Good.c_sum : ∀ hh, ClEq Tryd.prog (.func (.func 15) [] []) [.str (d.s.take 252)] hh (.int .u32 (ad (d.s.take 252))) hh := fun hh =>
  sum_of _ (by rw [List.length_take]; omega) hh
theorem Good.c_k : indexI tab 9 (.str d.s) (.int .i64 0) = some (.int .u8 d.k) := by
  have := ix_str (s := d.s) (i := 0) (by rw [g.len]; omega)
  rw [← g.k] at this
  exact this
theorem Good.c_n : indexI tab 9 (.str d.s) (.int .i64 1) = some (.int .u8 d.n) := by
  have := ix_str (s := d.s) (i := 1) (by rw [g.len]; omega)
  rw [← g.n] at this
  exact this
theorem Good.c_wn : IV.int .i64 (IntKind.wrap .i64 (d.n : Int)) = .int .i64 d.n := by have := g.nlt; rw [wrap64 (by omega) (by omega)]
theorem Good.c_wk : IV.int .i64 (IntKind.wrap .i64 (d.k : Int)) = .int .i64 d.k := by have := g.klt; rw [wrap64 (by omega) (by omega)]
theorem Good.c_2n : IV.int .i64 (IntKind.wrap .i64 (2 + (d.n : Int))) = .int .i64 (2 + d.n : Nat) := by
  have := g.nlt; rw [wrap64 (by omega) (by omega), Int.natCast_add]; rfl
theorem Good.zlen (hn : d.n ≤ 240) : d.z.length = 250 - d.n := by
  rw [g.z, List.length_drop, List.length_take, g.len]; omega
theorem Good.c_z (hn : d.n ≤ 240) : sliceI tab 9 (.str d.s) (some (.int .i64 (2 + d.n : Nat))) (some (.int .i64 252)) none ⟨.leaf, 0⟩ = some (.str d.z) := by
  rw [sl_gen (l := 2 + d.n) (u := 252) (bnd _ 0) (show boundI (some (IV.int .i64 252)) _ = some 252 from rfl) (by omega) (by rw [g.len]; omega), g.z]
theorem Good.c_body (hn : d.n ≤ 240) : sliceI tab 9 (.str d.s) (some (.int .i64 2)) (some (.int .i64 (2 + d.n : Nat))) none ⟨.leaf, 0⟩ = some (.str d.body) := by
  rw [sl_gen (l := 2) (u := 2 + d.n) (show boundI (some (IV.int .i64 2)) 0 = some 2 from rfl) (bnd _ _) (by omega) (by rw [g.len]; omega), g.body]
end

theorem enters13 : Go.Proofs.Enters Tryd.prog 13 := Go.Proofs.enters_of Tryd.func13 (by kernel_rfl) rfl
/-- The program's Open tells a fault. -/
def Tells (s : List UInt8) (code at' : Int) : Prop := ∀ h : H, ClEq Tryd.prog (.func (.func 13) [] []) [.str s] h (flt h.next) (h.new (.cells [.int .i64 code, .int .i64 at'] 49))
def Opens (s : List UInt8) (k : Nat) (body : List UInt8) : Prop := ∀ h : H, ClEq Tryd.prog (.func (.func 13) [] []) [.str s] h (.tup [.int .i64 k, .str body, .nilif]) h
theorem tells_of {s : List UInt8} {code at' : Int} {r : Nat} {oc : Nat → Nat → Option It} {ob : List Prop} (hrun : pfO Tryd.prog tab oc 80 13 [.str s] r = some (flt r, fbk code at', ob)) (hob : AllP ob) : Tells s code at' := fun h =>
  cl_of enters13 (Sp.anyO (v := flt 0) enters13 rfl rfl rfl rfl (Sp.pxO tab_ok mixed (v := flt 0) hrun hob rfl rfl (by simp [flt, IV.under, underL])) h)

theorem pA {s : List UInt8} (h : s.length ≠ 256) : Tells s 2 0 :=
  tells_of (oA ⟨s, 0, 0, 0, 0, 0, 0, 0, 0, [], []⟩) ⟨by
    show IV.bool ((s.length : Int) == 256) = .bool false
    rw [beq_eq_false_iff_ne.2 (by omega)], trivial⟩
theorem ncast_ne {a b : Nat} (h : a ≠ b) : IV.bool ((a : Int) == (b : Nat)) = .bool false := by rw [beq_eq_false_iff_ne.2 (by omega)]
theorem ncast_eq {a b : Nat} (h : a = b) : IV.bool ((a : Int) == (b : Nat)) = .bool true := by rw [h, beq_self_eq_true]
theorem pB {d : OD} (g : Good d) (hN : d.N ≠ ad (d.s.take 252)) : Tells d.s 8 252 :=
  tells_of (oB d) ⟨g.c_len, g.c_tail, g.c_N, g.c_pre, Good.c_sum, ncast_ne hN, trivial⟩
theorem pC {d : OD} (g : Good d) (hN : d.N = ad (d.s.take 252)) (hk : d.k = 0) : Tells d.s 6 0 :=
  tells_of (oC d) ⟨g.c_len, g.c_tail, g.c_N, g.c_pre, Good.c_sum, ncast_eq hN, g.c_k, by rw [decide_eq_false (by omega)], trivial⟩
theorem pD {d : OD} (g : Good d) (hN : d.N = ad (d.s.take 252)) (hk : 0 < d.k) (hn : 240 < d.n) : Tells d.s 4 1 :=
  tells_of (oD d) ⟨g.c_len, g.c_tail, g.c_N, g.c_pre, Good.c_sum, ncast_eq hN, g.c_k, by rw [decide_eq_true (by omega)], g.c_n, g.c_wn, by rw [decide_eq_false (by omega)], trivial⟩
theorem pE {d : OD} (g : Good d) (hN : d.N = ad (d.s.take 252)) (hk : 0 < d.k) (hn : d.n ≤ 240) (hj : d.j < d.z.length) (h0 : ∀ j, j < d.j → d.z.getD j 0 = 0) (h1 : d.z.getD d.j 0 ≠ 0) : Tells d.s 5 (2 + d.n + d.j : Nat) := by
  have hz := g.zlen hn
  refine tells_of (oE d) ⟨g.c_len, g.c_tail, g.c_N, g.c_pre, Good.c_sum, ncast_eq hN, g.c_k, by rw [decide_eq_true (by omega)], g.c_n, g.c_wn, by rw [decide_eq_true (by omega)], g.c_2n, g.c_z hn, fun hh hg => ?_, ?_, ncast_ne (by omega), g.c_2n, ?_, trivial⟩
  · have := trim_cl hh hg (by omega) (j0 := d.j) (by omega) h0 (fun _ => h1)
    unfold trimV at this
    rw [if_pos hj] at this
    exact this
  · rw [wrap64 (by omega) (by omega)]
    have : (d.z.length : Int) - ((d.z.length - d.j : Nat) : Int) = d.j := by omega
    rw [this]
  · rw [wrap64 (by omega) (by omega), ← Int.natCast_add]
theorem pF {d : OD} (g : Good d) (hN : d.N = ad (d.s.take 252)) (hk : 0 < d.k) (hn : d.n ≤ 240) (hj : d.j = d.z.length) (h0 : ∀ j, j < d.j → d.z.getD j 0 = 0) : Opens d.s d.k d.body := fun h => by
  have hz := g.zlen hn
  refine cl_of enters13 (Sp.anyH enters13 rfl rfl rfl (Sp.pxV tab_ok mixed rfl (oF d) ⟨g.c_len, g.c_tail, g.c_N, g.c_pre, Good.c_sum, ncast_eq hN, g.c_k, by rw [decide_eq_true (by omega)], g.c_n, g.c_wn, by rw [decide_eq_true (by omega)], g.c_2n, g.c_z hn, fun hh hg => ?_, ?_, ncast_eq hj, g.c_2n, ?_,
    g.c_k, g.c_wk, g.c_2n, g.c_body hn, trivial⟩) h)
  · have := trim_cl hh hg (by omega) (j0 := d.j) (by omega) h0 (fun h => by omega)
    unfold trimV at this
    rw [if_neg (by omega)] at this
    exact this
  · rw [wrap64 (by omega) (by omega), hj, Int.sub_zero]
  · rw [wrap64 (by omega) (by omega), ← Int.natCast_add]
end Go.Proofs.YtoimbaocmeolgaaDoor
