/- The reference's Open: the conditions of its ends, shown; and that both tell the same. -/
import Derived.Test.YtoimbaocmeolgaaDoorCRef
namespace Go.Proofs.YtoimbaocmeolgaaDoor
open Go Sx Go.RowKit

def Refs (s : List UInt8) (v : IV) : Prop := ∀ h : H, ClEq Tryd.prog (.func (.func 17) [] []) [.str s] h v h
theorem enters17 : Go.Proofs.Enters Tryd.prog 17 := Go.Proofs.enters_of Tryd.func17 (by kernel_rfl) rfl
def Q17 (v : IV) : Out → Fr → H → Prop := BodyQ tab [.tmp 2, .tmp 3, .cell 4 49] fun v' h' => v' = v ∧ ∀ i x, E0.get i = some x → h'.get i = some x
def rv (a : Int) (b : List UInt8) (c at' : Int) : IV := .tup [.int .i64 a, .str b, .agg [.int .i64 c, .int .i64 at']]

theorem refs_mk {s : List UInt8} {v : IV} (hv : v.flat = true)
    (he : ∀ fr, FrIs 50 fr (fun j => [IV.str s].getD j undefI) [] → EvS Tryd.prog none 50 (l17.take 11 ++ (.block 0 (.loop (loopAt l17 11)) :: l17.drop 12)) (Q17 v) fr E0) : Refs s v := fun h => by
  refine cl_of enters17 (Sp.anyH enters17 rfl hv rfl (Sp.forget hv ?_) h)
  refine Sp.of_ev tab_ok Tryd.func17 (c := bodyC Tryd.prog 17) (by kernel_rfl) (Nat.le_of_ble_eq_true rfl) ?_
  show Ev Tryd.prog none 50 (bodyC Tryd.prog 17) (Q17 v) _ _
  exact Ev.of_flat l17_eq (he _ (FrIs.start 50 _))

theorem res17 {fr : Fr} {g : Nat → IV} {a c at' : Int} {b : List UInt8} {o : Out} (ho : o = .normal ∨ o = .ret) (hf : FrIs 50 fr (ov [2, 3, 4] [.int .i64 a, .str b, .ptr 0 0] g) []) : Q17 (rv a b c at') o fr (hO c at') := by
  have e2 : fr.tm.tmp 2 = .int .i64 a := hf.2 2 (by decide)
  have e3 : fr.tm.tmp 3 = .str b := hf.2 3 (by decide)
  have e4 : fr.tm.tmp 4 = .ptr 0 0 := hf.2 4 (by decide)
  refine ⟨ho, hO c at', [.int .i64 a, .str b, .agg [.int .i64 c, .int .i64 at']], by rw [hf.1]; rfl, ?_, rfl, fun i x hi => (E0_get i x hi).elim⟩
  simp only [resI, e2, e3, e4]
  kernel_rfl

theorem neqz {a b : Int} (h : a ≠ b) : (a != b) = true := by simp [bne, h]
theorem neqe {a b : Int} (h : a = b) : (a != b) = false := by simp [bne, h]

theorem refA {s : List UInt8} (h : s.length ≠ 256) : Refs s (rv 0 [] 2 0) :=
  refs_mk rfl fun fr hf => EvS.px tab_ok mixed hf (by simp) (rA ⟨s, 0, 0, 0, 0, 0, 0, 0, 0, [], []⟩) ⟨by
    show IV.bool ((s.length : Int) != 256) = .bool true
    rw [neqz (by omega)], trivial⟩ fun fr' g hf' => res17 (.inr rfl) hf'

theorem r_w (s : List UInt8) : IV.int .u64 (IntKind.wrap .u64 (ad s : Int)) = .int .u64 (ad s) := by have := ad_lt s; rw [wrapu64 (by omega) (by omega)]
theorem r_be (s : List UInt8) : ∀ hh, ClEq Tryd.prog (.func (.func 11) [] []) [.int .u64 (ad s), .int .i64 4] hh (.str (be (ad s) 4)) hh := fun hh => bytes_of 4 _ (by omega) (by have := ad_lt s; omega) hh

section
variable {d : OD} (g : Good d)
include g
theorem Good.r_len : IV.bool ((d.s.length : Int) != 256) = .bool false := by rw [g.len]; rfl
theorem Good.r_of : ∀ hh, ClEq Tryd.prog (.func (.func 12) [] []) [.str (d.s.take 252)] hh (.int .u32 (ad (d.s.take 252))) hh := fun hh => ref_of _ (by rw [List.length_take, g.len]; decide) hh
theorem Good.r_eq (hN : d.N = ad (d.s.take 252)) : IV.bool ([d.b0, d.b1, d.b2, d.b3] != be (ad (d.s.take 252)) 4) = .bool false := by
  rw [← hN, g.beN, g.tail]; simp
theorem Good.r_ne (hN : d.N ≠ ad (d.s.take 252)) : IV.bool ([d.b0, d.b1, d.b2, d.b3] != be (ad (d.s.take 252)) 4) = .bool true := by
  rw [← g.tail, ← g.beN]
  have : be d.N 4 ≠ be (ad (d.s.take 252)) 4 := fun e => hN (be_inj g.Nlt (ad_lt _) e)
  simp [bne, this]
theorem Good.r_nz (j : Nat) (hn : d.n ≤ 240) (hj : j < d.z.length) : indexI tab 9 (.str d.s) (.int .i64 (2 + d.n + j : Nat)) = some (.int .u8 (d.z.getD j 0).toNat) := by
  have hz := g.zlen hn
  rw [ix_str (by rw [g.len]; omega), g.z]
  congr 4
  simp only [List.getD_eq_getElem?_getD, List.getElem?_drop]
  rw [List.getElem?_take_of_lt (by omega)]
end

theorem refB {d : OD} (g : Good d) (hN : d.N ≠ ad (d.s.take 252)) : Refs d.s (rv 0 [] 8 252) :=
  refs_mk rfl fun fr hf => EvS.px tab_ok mixed hf (by simp) (rB d) ⟨g.r_len, g.c_tail, g.c_pre, g.r_of, r_w _, r_be _, g.r_ne hN, trivial⟩ fun fr' g hf' => res17 (.inr rfl) hf'
theorem refC {d : OD} (g : Good d) (hN : d.N = ad (d.s.take 252)) (hk : d.k = 0) : Refs d.s (rv 0 [] 6 0) :=
  refs_mk rfl fun fr hf => EvS.px tab_ok mixed hf (by simp) (rC d) ⟨g.r_len, g.c_tail, g.c_pre, g.r_of, r_w _, r_be _, g.r_eq hN, g.c_k, by rw [hk]; rfl, trivial⟩ fun fr' g hf' => res17 (.inr rfl) hf'
theorem refD {d : OD} (g : Good d) (hN : d.N = ad (d.s.take 252)) (hk : 0 < d.k) (hn : 240 < d.n) : Refs d.s (rv 0 [] 4 1) :=
  refs_mk rfl fun fr hf => EvS.px tab_ok mixed hf (by simp) (rD d) ⟨g.r_len, g.c_tail, g.c_pre, g.r_of, r_w _, r_be _, g.r_eq hN, g.c_k, by rw [beqz (by omega)], g.c_n, g.c_wn, by rw [decide_eq_true (by omega)], trivial⟩ fun fr' g hf' => res17 (.inr rfl) hf'

theorem ref_loop {d : OD} {v : IV} (g : Good d) (hN : d.N = ad (d.s.take 252)) (hk : 0 < d.k) (hn : d.n ≤ 240) (hv : v.flat = true) {j0 : Nat} (hj0 : j0 ≤ d.z.length) (h0 : ∀ j, j < j0 → d.z.getD j 0 = 0)
    (hend : ∀ fr g2, FrIs 50 fr (ov [0, 4, 5, 6] (lv17 d j0) g2) [] → Ev Tryd.prog none 50 (loopAt l17 11) (RoundEnds Tryd.prog none 50 0 (l17.drop 12) (Q17 v) (fun m fr h => h = hO 0 0 ∧ ∃ j, j ≤ j0 ∧ m = j0 - j ∧ ∃ g2, FrIs 50 fr (ov [0, 4, 5, 6] (lv17 d j) g2) []) 0) fr (hO 0 0)) : Refs d.s v := by
  have hz := g.zlen hn
  refine refs_mk hv fun fr hf => EvS.px tab_ok mixed hf (by simp) (rL d) ⟨g.r_len, g.c_tail, g.c_pre, g.r_of, r_w _, r_be _, g.r_eq hN, g.c_k, by rw [beqz (by omega)], g.c_n, g.c_wn, by rw [decide_eq_false (by omega)], g.c_2n, trivial⟩ fun fr' g1 hf' => ?_
  refine EvS.loop (fun m fr h => h = hO 0 0 ∧ ∃ j, j ≤ j0 ∧ m = j0 - j ∧ ∃ g2, FrIs 50 fr (ov [0, 4, 5, 6] (lv17 d j) g2) []) j0 ⟨rfl, 0, by omega, by omega, g1, hf'⟩ ?_
  rintro m fr h ⟨rfl, j, hj, rfl, g2, hf2⟩
  by_cases hlt : j < j0
  · refine Ev.px tab_ok mixed hf2 (rLgo d j (d.z.getD j 0).toNat g2) ⟨by rw [decide_eq_true (by omega)], g.r_nz j hn (by omega), by rw [h0 j hlt]; rfl, ?_, trivial⟩ fun fr3 g3 hf3 => ?_
    · rw [wrap64 (by omega) (by omega)]; rfl
    · exact ⟨j0 - (j + 1), by omega, rfl, j + 1, by omega, rfl, g3, hf3⟩
  · obtain rfl : j = j0 := by omega
    rw [Nat.sub_self]
    exact hend fr g2 hf2

theorem refE {d : OD} (g : Good d) (hN : d.N = ad (d.s.take 252)) (hk : 0 < d.k) (hn : d.n ≤ 240) (hj : d.j < d.z.length) (h0 : ∀ j, j < d.j → d.z.getD j 0 = 0) (h1 : d.z.getD d.j 0 ≠ 0) : Refs d.s (rv 0 [] 5 (2 + d.n + d.j : Nat)) := by
  have hz := g.zlen hn
  have hx : (d.z.getD d.j 0).toNat ≠ 0 := fun e => h1 (UInt8.toNat_inj.1 e)
  exact ref_loop g hN hk hn rfl (Nat.le_of_lt hj) h0 fun fr g2 hf => Ev.px tab_ok mixed hf (rLnz d d.j (d.z.getD d.j 0).toNat g2) ⟨by rw [decide_eq_true (by omega)], g.r_nz d.j hn hj, by rw [neqz (by omega)], trivial⟩ fun fr3 g3 hf3 => res17 (.inr rfl) hf3
theorem refF {d : OD} (g : Good d) (hN : d.N = ad (d.s.take 252)) (hk : 0 < d.k) (hn : d.n ≤ 240) (h0 : ∀ j, j < d.z.length → d.z.getD j 0 = 0) : Refs d.s (rv d.k d.body 0 0) := by
  have hz := g.zlen hn
  exact ref_loop g hN hk hn rfl (Nat.le_refl _) h0 fun fr g2 hf => Ev.px tab_ok mixed hf (rLend d d.z.length 0 g2) ⟨by rw [decide_eq_false (by omega)], trivial⟩ fun fr3 g3 hf3 => RoundEnds.out
    (EvS.pxEnd tab_ok mixed hf3 (List.cons_ne_nil _ _) (rF d d.z.length g3) ⟨g.c_k, g.c_wk, g.c_2n, g.c_body hn, trivial⟩ fun fr4 g4 hf4 => res17 (.inr rfl) hf4)

/-- Both tell the same of any bytes. -/
theorem open_both (s : List UInt8) : (∃ code at' : Int, (code = 2 ∨ code = 8 ∨ code = 6 ∨ code = 4 ∨ code = 5) ∧ Tells s code at' ∧ Refs s (rv 0 [] code at')) ∨ (∃ k body, Opens s k body ∧ Refs s (rv (k : Nat) body 0 0)) := by
  by_cases hl : s.length = 256
  case neg => exact .inl ⟨2, 0, .inl rfl, pA hl, refA hl⟩
  obtain ⟨d0, g0, rfl, _⟩ := good_of hl 0
  by_cases hN : d0.N = ad (d0.s.take 252)
  case neg => exact .inl ⟨8, 252, .inr (.inl rfl), pB g0 hN, refB g0 hN⟩
  by_cases hk : d0.k = 0
  · exact .inl ⟨6, 0, .inr (.inr (.inl rfl)), pC g0 hN hk, refC g0 hN hk⟩
  by_cases hn : 240 < d0.n
  · exact .inl ⟨4, 1, .inr (.inr (.inr (.inl rfl))), pD g0 hN (by omega) hn, refD g0 hN (by omega) hn⟩
  -- the first place that is not nought
  have first : ∀ z : List UInt8, ∃ j, j ≤ z.length ∧ (∀ i, i < j → z.getD i 0 = 0) ∧ (j < z.length → z.getD j 0 ≠ 0) := by
    intro z
    induction z with
    | nil => exact ⟨0, Nat.le_refl _, fun i hi => by omega, fun h => by simp at h⟩
    | cons a z ih =>
      by_cases ha : a = 0
      · obtain ⟨j, h1, h2, h3⟩ := ih
        refine ⟨j + 1, by simp; omega, fun i hi => ?_, fun h => ?_⟩
        · cases i with
          | zero => exact ha
          | succ i => exact h2 i (by omega)
        · exact h3 (by simpa using h)
      · exact ⟨0, by simp, fun i hi => by omega, fun _ => ha⟩
  obtain ⟨j, h1, h2, h3⟩ := first d0.z
  -- the same, with its place
  have gj : Good { d0 with j := j } := ⟨g0.len, g0.tail, g0.N, g0.k, g0.n, g0.z, g0.body⟩
  by_cases hj : j < d0.z.length
  · exact .inl ⟨5, _, .inr (.inr (.inr (.inr rfl))), pE (d := { d0 with j := j }) gj hN (by show 0 < d0.k; omega) (by show d0.n ≤ 240; omega) hj h2 (h3 hj), refE (d := { d0 with j := j }) gj hN (by show 0 < d0.k; omega) (by show d0.n ≤ 240; omega) hj h2 (h3 hj)⟩
  · have hje : j = d0.z.length := by omega
    exact .inr ⟨d0.k, d0.body, pF (d := { d0 with j := j }) gj hN (by show 0 < d0.k; omega) (by show d0.n ≤ 240; omega) hje h2, refF (d := { d0 with j := j }) gj hN (by show 0 < d0.k; omega) (by show d0.n ≤ 240; omega) (by rw [hje] at h2; exact h2)⟩
end Go.Proofs.YtoimbaocmeolgaaDoor
