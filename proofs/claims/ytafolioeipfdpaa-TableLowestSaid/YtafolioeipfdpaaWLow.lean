/- What Lowest answers: the lowest page that is free, or that there is none. -/
import Derived.Test.YtafolioeipfdpaaWBef
namespace Go.Proofs.Ytafolioeipfdpaa
open Go Sx Go.RowKit

noncomputable def l6 : List Code := flat (bodyC Try.prog 6)
noncomputable def as6 : Code := rangeA l6 4
noncomputable def bd6 : Code := rangeB l6 4
theorem l6_eq : flat (bodyC Try.prog 6) = l6.take 4 ++ (.block 0 (.rangeFunc (.tmp 8) #[9, 10] as6 bd6) :: l6.drop 5) := by kernel_rfl
noncomputable def l19 : List Code := flat (bodyC Try.prog 19)
theorem l19_eq : flat (bodyC Try.prog 19) = l19.take 1 ++ (.block 0 (.loop (loopAt l19 1)) :: []) := by kernel_rfl

def fv6 : IV := .func (.func 19) [] [.ptr 4 0, .ptr 5 0]
def F6 (g : Nat → IV) : Nat → IV := ov [0, 2, 3, 8] [.ptr 1 0, .ptr 2 0, .ptr 3 0, fv6] g
def h5 (g0 : Option (Bx × Bool)) (a : Nat → Int) (d : Int) : H := ((((hp g0 a d).new (.cells [.int .i64 0] 3)).new (.cells [.int .i64 0] 27)).new (.cells [.ptr 1 0] 25)).new (.cells [.bool false] 4)
noncomputable def h7 (g0 : Option (Bx × Bool)) (a : Nat → Int) (d : Int) (g : Nat → IV) : H := ((h5 g0 a d).new (.defs false)).new (.loop .ready none 12 (canon 12 (F6 g) []).tm [9, 10] as6 bd6 6)
noncomputable def h7b (g0 : Option (Bx × Bool)) (a : Nat → Int) (d : Int) (g : Nat → IV) : H := (h7 g0 a d g).put 7 (.loop .busy none 12 (canon 12 (F6 g) []).tm [9, 10] as6 bd6 6)
noncomputable def h7c (g0 : Option (Bx × Bool)) (a : Nat → Int) (d : Int) (g : Nat → IV) (k : Int) : H := ((h7b g0 a d g).put 2 (.cells [.int .i64 k] 3)).put 3 (.cells [.int .i64 0] 27)
noncomputable def h7e (g0 : Option (Bx × Bool)) (a : Nat → Int) (d : Int) (g : Nat → IV) (k : Int) : H := (h7c g0 a d g k).put 7 (.loop .done (some .ret) 12 (canon 12 (F6 g) []).tm [9, 10] as6 bd6 6)

theorem pre6 (g0 : Option (Bx × Bool)) (a : Nat → Int) (d : Int) : psR Try.prog tab (fun _ _ => none) 50 6 none 12 (l6.take 4) (canon 12 (fun j => [IV.ptr 1 0].getD j undefI) []) (hp g0 a d) [0, 2, 3, 8] =
  some (.normal, [.ptr 1 0, .ptr 2 0, .ptr 3 0, fv6], h5 g0 a d, [], []) := by kernel_rfl
theorem fv6_ev (g : Nat → IV) : evo (canon 12 (F6 g) []).tm (.tmp 8) = some fv6 := by kernel_rfl
theorem enters19 : Go.Proofs.Enters Try.prog 19 := Go.Proofs.enters_of Try.func19 (by kernel_rfl) rfl
theorem enters6 : Go.Proofs.Enters Try.prog 6 := Go.Proofs.enters_of Try.func6 (by kernel_rfl) rfl

/-! ### A round of the body -/
def vF (k : Int) (g : Nat → IV) : Nat → IV := ov [9, 10] [.int .i64 k, .int .i64 0] (F6 g)
theorem as6_run (g0 : Option (Bx × Bool)) (a : Nat → Int) (d : Int) (g : Nat → IV) (k : Int) : pxR Try.prog tab (fun _ _ => none) 50 6 (some 7) 12 as6 (canon 12 (vF k g) []) (h7 g0 a d g) [2, 3, 4] =
  some (.normal, [.ptr 2 0, .ptr 3 0, .int .i64 k], h7 g0 a d g, [], []) := by kernel_rfl
theorem bd6_run (g0 : Option (Bx × Bool)) (a : Nat → Int) (d : Int) (g g2 : Nat → IV) (k : Int) : pxR Try.prog tab (fun _ _ => none) 50 6 (some 7) 12 bd6 (canon 12 (ov [2, 3, 4] [.ptr 2 0, .ptr 3 0, .int .i64 k] g2) []) (h7b g0 a d g) [] =
  some (.ret, [], h7c g0 a d g k, [], []) := by kernel_rfl
theorem get7 (g0 : Option (Bx × Bool)) (a : Nat → Int) (d : Int) (g : Nat → IV) : (h7 g0 a d g).get 7 = some (.loop .ready none 12 (canon 12 (F6 g) []).tm [9, 10] as6 bd6 6, true) := by kernel_rfl
theorem get7c (g0 : Option (Bx × Bool)) (a : Nat → Int) (d : Int) (g : Nat → IV) (k : Int) : (h7c g0 a d g k).get 7 = some (.loop .busy none 12 (canon 12 (F6 g) []).tm [9, 10] as6 bd6 6, true) := by kernel_rfl
theorem get7e (g0 : Option (Bx × Bool)) (a : Nat → Int) (d : Int) (g : Nat → IV) (k : Int) : (h7e g0 a d g k).get 7 = some (.loop .done (some .ret) 12 (canon 12 (F6 g) []).tm [9, 10] as6 bd6 6, true) := by kernel_rfl

theorem vF_is (k : Int) (g : Nat → IV) : FrIs 12 ⟨setParams (canon 12 (F6 g) []).tm [9, 10] [.int .i64 k, .int .i64 0], []⟩ (vF k g) [] := by
  refine ⟨rfl, fun j hj => ?_⟩
  show (((canon 12 (F6 g) []).tm.set 9 (some (.int .i64 k))).set 10 (some (.int .i64 0))).tmp j = _
  rw [tmp_set, tmp_set]
  unfold vF
  simp only [ov]
  by_cases h9 : j = 9
  · subst h9; rfl
  · by_cases h10 : j = 10
    · subst h10; rfl
    · have e9 : Nat.beq j 9 = false := by rw [beqE]; exact decide_eq_false h9
      have e10 : Nat.beq j 10 = false := by rw [beqE]; exact decide_eq_false h10
      rw [if_neg (fun e => h10 e.symm), if_neg (fun e => h9 e.symm), e9, e10, canon_tmp, if_pos hj]
      rfl

theorem yield_cl (g0 : Option (Bx × Bool)) (a : Nat → Int) (d : Int) (g : Nat → IV) (k : Int) :
    ClEq Try.prog (.func (.yield 7) [] []) [.int .i64 k, .int .i64 0] (h7 g0 a d g) (.bool false) (h7e g0 a d g k) := by
  refine Cl.yield (get7 g0 a d g) rfl (by decide) ?_
  refine Ev.px tab_ok mixed (vF_is k g) (as6_run g0 a d g k) trivial fun fr1 g1 hf1 => ⟨rfl, _, _, _, _, _, _, _, get7 g0 a d g, ?_⟩
  refine Ev.px tab_ok mixed hf1 (bd6_run g0 a d g g1 k) trivial fun fr2 g2 hf2 => ?_
  exact ⟨_, _, _, _, _, _, _, _, get7c g0 a d g k, rfl, rfl⟩

/-! ### The closure -/
def ag (a : Nat → Int) : IV := .agg ((List.range 960).map fun j => .int .u16 (a j))
def oc19 (a : Nat → Int) (k : Nat) (lt pos : Bool) (h : H) : Nat → Nat → Option It := fun f t => match f, t with
  | 19, 9 => some (.o (ag a))
  | 19, 11 => some (.w (.bool lt))
  | 19, 13 => some (.o (.int .u16 (a k)))
  | 19, 15 => some (.w (.bool pos))
  | 19, 21 => some (.w (.int .i64 ((k + 1 : Nat) : Int)))
  | 19, 23 => some (.w (.int .i64 0))
  | 19, 24 => some (.c (.bool false) h)
  | 19, 27 => some (.w (.int .i64 ((k + 1 : Nat) : Int)))
  | _, _ => none
theorem pre19 (g0 : Option (Bx × Bool)) (a : Nat → Int) (d : Int) (g : Nat → IV) (hx : H) :
    psR Try.prog tab (oc19 a 0 true true hx) 50 19 none 28 (l19.take 1) (canon 28 (fun j => [IV.func (.yield 7) [] [], .ptr 4 0, .ptr 5 0].getD j undefI) []) (h7 g0 a d g) [0, 2, 9, 10] =
  some (.normal, [.func (.yield 7) [] [], .ptr 5 0, ag a, .int .i64 0], h7 g0 a d g, [], [ldC true 960 (tc a d) 0 = some (ag a)]) := by kernel_rfl
theorem r19_end (g0 : Option (Bx × Bool)) (a : Nat → Int) (d : Int) (g g2 : Nat → IV) (k : Nat) (hx : H) :
    pxR Try.prog tab (oc19 a k false true hx) 50 19 none 28 (loopAt l19 1) (canon 28 (ov [0, 2, 9, 10] [.func (.yield 7) [] [], .ptr 5 0, ag a, .int .i64 k] g2) []) (h7 g0 a d g) [] =
  some (.exit 0, [], h7 g0 a d g, [], [IV.bool (decide ((k : Int) < 960)) = .bool false]) := by kernel_rfl
theorem r19_go (g0 : Option (Bx × Bool)) (a : Nat → Int) (d : Int) (g g2 : Nat → IV) (k : Nat) (hx : H) :
    pxR Try.prog tab (oc19 a k true true hx) 50 19 none 28 (loopAt l19 1) (canon 28 (ov [0, 2, 9, 10] [.func (.yield 7) [] [], .ptr 5 0, ag a, .int .i64 k] g2) []) (h7 g0 a d g) [0, 2, 9, 10] =
  some (.normal, [.func (.yield 7) [] [], .ptr 5 0, ag a, .int .i64 ((k + 1 : Nat) : Int)], h7 g0 a d g, [], [IV.bool (decide ((k : Int) < 960)) = .bool true,
    indexI tab 38 (ag a) (.int .i64 k) = some (.int .u16 (a k)), IV.bool (decide (a k > 0)) = .bool true, IV.int .i64 (IntKind.wrap .i64 ((k : Int) + 1)) = .int .i64 ((k + 1 : Nat) : Int)]) := by kernel_rfl
theorem r19_hit (g0 : Option (Bx × Bool)) (a : Nat → Int) (d : Int) (g g2 : Nat → IV) (k : Nat) (hx : H) :
    pxR Try.prog tab (oc19 a k true false hx) 50 19 none 28 (loopAt l19 1) (canon 28 (ov [0, 2, 9, 10] [.func (.yield 7) [] [], .ptr 5 0, ag a, .int .i64 k] g2) []) (h7 g0 a d g) [] =
  some (.ret, [], hx, [], [IV.bool (decide ((k : Int) < 960)) = .bool true,
    indexI tab 38 (ag a) (.int .i64 k) = some (.int .u16 (a k)), IV.bool (decide (a k > 0)) = .bool false, IV.int .i64 (IntKind.wrap .i64 ((k : Int) + 1)) = .int .i64 ((k + 1 : Nat) : Int),
    IV.int .i64 (IntKind.wrap .i64 (a k)) = .int .i64 0,
    ClEq Try.prog (.func (.yield 7) [] []) [.int .i64 ((k + 1 : Nat) : Int), .int .i64 0] (h7 g0 a d g) (.bool false) hx]) := by kernel_rfl

theorem ag_ld (a : Nat → Int) (d : Int) : ldC true 960 (tc a d) 0 = some (ag a) := by
  unfold ldC
  rw [show Nat.ble (0 + 960) (tc a d).length = true by rw [tc_length]; rfl]
  simp only [cond_true]
  unfold ag tc
  rw [List.drop_zero, List.take_append_of_le_length (by simp), List.take_of_length_le (by simp)]
theorem s22 : (tab.get 22).map (fun t => (t.size, t.d)) = some (1, .int .u16) := by kernel_rfl
theorem ag_ix (a : Nat → Int) {k : Nat} (hk : k < 960) : indexI tab 38 (ag a) (.int .i64 k) = some (.int .u16 (a k)) := by
  have h1 := t38
  have h2 := s22
  unfold indexI
  cases ht : tab.get 38 with
  | none => rw [ht] at h1; cases h1
  | some ty =>
    cases he : tab.get 22 with
    | none => rw [he] at h2; cases h2
    | some et =>
      rw [ht] at h1; rw [he] at h2
      simp only [Option.map_some, Option.some.injEq, Prod.mk.injEq] at h1 h2
      simp only [h1, ag, he, h2.1]
      rw [if_pos (by omega)]
      simp only [partI, he, h2.1, h2.2]
      simp [hk, aggD]

theorem sp19_hit (g0 : Option (Bx × Bool)) (a : Nat → Int) (d : Int) (g : Nat → IV) {k0 : Nat} (hk0 : k0 < 960) (h0 : a k0 = 0) (hpos : ∀ j, j < k0 → 0 < a j) :
    SpEq Try.prog 19 [.func (.yield 7) [] [], .ptr 4 0, .ptr 5 0] (h7 g0 a d g) (.tup []) (h7e g0 a d g ((k0 + 1 : Nat) : Int)) := by
  refine Sp.of_ev tab_ok Try.func19 (c := bodyC Try.prog 19) (by kernel_rfl) (Nat.le_of_ble_eq_true rfl) ?_
  show Ev Try.prog none 28 (bodyC Try.prog 19) (BodyQ tab [] _) _ _
  refine Ev.of_flat l19_eq ?_
  refine EvS.px tab_ok mixed (FrIs.start 28 _) (by simp) (pre19 g0 a d g (h7 g0 a d g)) ⟨ag_ld a d, trivial⟩ fun fr g2 hf => ?_
  refine EvS.loop (fun m fr h => h = h7 g0 a d g ∧ ∃ k, k ≤ k0 ∧ m = k0 - k ∧ ∃ g2, FrIs 28 fr (ov [0, 2, 9, 10] [.func (.yield 7) [] [], .ptr 5 0, ag a, .int .i64 (k : Nat)] g2) []) k0
    ⟨rfl, 0, by omega, by omega, g2, hf⟩ ?_
  rintro m fr h ⟨rfl, k, hk, rfl, g2, hf⟩
  by_cases hlt : k < k0
  · have hp := hpos k hlt
    refine Ev.px tab_ok mixed hf (r19_go g0 a d g g2 k (h7 g0 a d g)) ⟨by rw [decide_eq_true (by omega)], ag_ix a (by omega), by rw [decide_eq_true (by omega)], w_inc (by omega), trivial⟩ fun fr' g' hf' => ?_
    exact ⟨k0 - (k + 1), by omega, rfl, k + 1, by omega, rfl, g', hf'⟩
  · have hke : k = k0 := by omega
    subst hke
    refine Ev.px tab_ok mixed hf (r19_hit g0 a d g g2 k (h7e g0 a d g ((k + 1 : Nat) : Int))) ⟨by rw [decide_eq_true (by omega)], ag_ix a (by omega), by rw [decide_eq_false (by omega)], w_inc (by omega),
      by rw [h0]; rfl, yield_cl g0 a d g _, trivial⟩ fun fr' g' hf' => ?_
    refine ⟨.inr rfl, _, [], ?_, rfl, rfl, rfl⟩
    rw [hf'.1]; rfl

theorem sp19_full (g0 : Option (Bx × Bool)) (a : Nat → Int) (d : Int) (g : Nat → IV) (hpos : ∀ j, j < 960 → 0 < a j) :
    SpEq Try.prog 19 [.func (.yield 7) [] [], .ptr 4 0, .ptr 5 0] (h7 g0 a d g) (.tup []) (h7 g0 a d g) := by
  refine Sp.of_ev tab_ok Try.func19 (c := bodyC Try.prog 19) (by kernel_rfl) (Nat.le_of_ble_eq_true rfl) ?_
  show Ev Try.prog none 28 (bodyC Try.prog 19) (BodyQ tab [] _) _ _
  refine Ev.of_flat l19_eq ?_
  refine EvS.px tab_ok mixed (FrIs.start 28 _) (by simp) (pre19 g0 a d g (h7 g0 a d g)) ⟨ag_ld a d, trivial⟩ fun fr g2 hf => ?_
  refine EvS.loop (fun m fr h => h = h7 g0 a d g ∧ ∃ k, k ≤ 960 ∧ m = 960 - k ∧ ∃ g2, FrIs 28 fr (ov [0, 2, 9, 10] [.func (.yield 7) [] [], .ptr 5 0, ag a, .int .i64 (k : Nat)] g2) []) 960
    ⟨rfl, 0, by omega, by omega, g2, hf⟩ ?_
  rintro m fr h ⟨rfl, k, hk, rfl, g2, hf⟩
  by_cases hlt : k < 960
  · have hp := hpos k hlt
    refine Ev.px tab_ok mixed hf (r19_go g0 a d g g2 k (h7 g0 a d g)) ⟨by rw [decide_eq_true (by omega)], ag_ix a (by omega), by rw [decide_eq_true (by omega)], w_inc (by omega), trivial⟩ fun fr' g' hf' => ?_
    exact ⟨960 - (k + 1), by omega, rfl, k + 1, by omega, rfl, g', hf'⟩
  · refine Ev.px tab_ok mixed hf (r19_end g0 a d g g2 k (h7 g0 a d g)) ⟨by rw [decide_eq_false (by omega)], trivial⟩ fun fr' g' hf' => ?_
    refine RoundEnds.out ?_
    refine ⟨.inl rfl, _, [], ?_, rfl, rfl, rfl⟩
    rw [hf'.1]; rfl

theorem post6 (g0 : Option (Bx × Bool)) (a : Nat → Int) (d : Int) (g : Nat → IV) : psR Try.prog tab (fun _ _ => none) 50 6 none 12 (l6.drop 5) (canon 12 (F6 g) [6]) ((h7 g0 a d g).kill 7) [2, 3] =
  some (.ret, [.ptr 2 0, .ptr 3 0], (((h7 g0 a d g).kill 7).put 2 (.cells [.int .i64 0] 3)).put 3 (.cells [.int .i64 15] 27), [6], []) := by kernel_rfl

theorem hp_get {g0 : Option (Bx × Bool)} {a : Nat → Int} {d : Int} {i : Nat} {x : Bx × Bool} (h : (hp g0 a d).get i = some x) : (i = 0 ∧ g0 = some x) ∨ (i = 1 ∧ (.cells (tc a d) 41, true) = x) := by
  unfold hp H.get Tr.get at h
  rw [beqE, beqE] at h
  by_cases h0 : i = 0
  · subst h0; exact .inl ⟨rfl, h⟩
  · rw [decide_eq_false h0] at h
    simp only [cond_false] at h
    by_cases h1 : i % 2 = 1
    · rw [decide_eq_true h1] at h
      simp only [cond_true, Tr.get] at h
      rw [beqE] at h
      by_cases h2 : i / 2 = 0
      · rw [decide_eq_true h2] at h
        simp only [cond_true, Option.some.injEq] at h
        exact .inr ⟨by omega, h⟩
      · rw [decide_eq_false h2] at h
        simp only [cond_false] at h
        cases hb : Nat.beq (i / 2 % 2) 1 <;> (rw [hb] at h; simp at h)
    · rw [decide_eq_false h1] at h
      simp [Tr.get] at h

/-- Lowest, where page k0 + 1 is the lowest that is free. -/
theorem low_hit (g0 : Option (Bx × Bool)) (a : Nat → Int) (d : Int) {k0 : Nat} (hk0 : k0 < 960) (h0 : a k0 = 0) (hpos : ∀ j, j < k0 → 0 < a j) :
    SpEq Try.prog 6 [.ptr 1 0] (hp g0 a d) (.tup [.int .i64 ((k0 + 1 : Nat) : Int), .int .i64 0]) (hp g0 a d) := by
  refine Sp.forget rfl ?_
  refine Sp.of_ev tab_ok Try.func6 (c := bodyC Try.prog 6) (by kernel_rfl) (Nat.le_of_ble_eq_true rfl) ?_
  show Ev Try.prog none 12 (bodyC Try.prog 6) (BodyQ tab [.cell 2 3, .cell 3 27] _) _ _
  refine Ev.of_flat l6_eq ?_
  refine EvS.px tab_ok mixed (FrIs.start 12 _) (by simp) (pre6 g0 a d) trivial fun fr g hf => ?_
  refine Ev.block (Ev.canon hf ?_)
  refine Ev.rangeFunc_none (fv6_ev g) rfl enters19 ?_
  refine Cl.of_sp enters19 ?_
  refine Sp.mono (sp19_hit g0 a d g hk0 h0 hpos) ?_
  rintro v h3 ⟨rfl, rfl⟩
  refine ⟨_, _, _, _, _, _, _, _, get7e g0 a d g _, by simp, ?_⟩
  refine Ev.ret ?_
  refine ⟨.inr rfl, ((h7e g0 a d g ((k0 + 1 : Nat) : Int)).kill 7).kill 6, [.int .i64 ((k0 + 1 : Nat) : Int), .int .i64 0], by kernel_rfl, by kernel_rfl, rfl, ?_⟩
  intro i x hi
  rcases hp_get hi with ⟨rfl, h⟩ | ⟨rfl, h⟩
  · rw [← h]; kernel_rfl
  · rw [← h]; kernel_rfl

/-- Lowest, where none is free. -/
theorem low_full (g0 : Option (Bx × Bool)) (a : Nat → Int) (d : Int) (hpos : ∀ j, j < 960 → 0 < a j) :
    SpEq Try.prog 6 [.ptr 1 0] (hp g0 a d) (.tup [.int .i64 0, .int .i64 15]) (hp g0 a d) := by
  refine Sp.forget rfl ?_
  refine Sp.of_ev tab_ok Try.func6 (c := bodyC Try.prog 6) (by kernel_rfl) (Nat.le_of_ble_eq_true rfl) ?_
  show Ev Try.prog none 12 (bodyC Try.prog 6) (BodyQ tab [.cell 2 3, .cell 3 27] _) _ _
  refine Ev.of_flat l6_eq ?_
  refine EvS.px tab_ok mixed (FrIs.start 12 _) (by simp) (pre6 g0 a d) trivial fun fr g hf => ?_
  refine Ev.block (Ev.canon hf ?_)
  refine Ev.rangeFunc_none (fv6_ev g) rfl enters19 ?_
  refine Cl.of_sp enters19 ?_
  refine Sp.mono (sp19_full g0 a d g hpos) ?_
  rintro v h3 ⟨rfl, rfl⟩
  refine ⟨_, _, _, _, _, _, _, _, get7 g0 a d g, by simp, ?_⟩
  refine EvS.pxEnd (F := F6 g) (ms := [6]) tab_ok mixed ⟨rfl, fun j hj => by rw [canon_tmp, if_pos hj]; rfl⟩ (List.cons_ne_nil _ _) (post6 g0 a d g) trivial fun fr2 g2 hf2 => ?_
  have e2 : fr2.tm.tmp 2 = .ptr 2 0 := hf2.2 2 (by decide)
  have e3 : fr2.tm.tmp 3 = .ptr 3 0 := hf2.2 3 (by decide)
  refine ⟨.inr rfl, ((((h7 g0 a d g).kill 7).put 2 (.cells [.int .i64 0] 3)).put 3 (.cells [.int .i64 15] 27)).kill 6, [.int .i64 0, .int .i64 15], by rw [hf2.1]; kernel_rfl, ?_, rfl, ?_⟩
  · simp only [resI, e2, e3]; kernel_rfl
  · intro i x hi
    rcases hp_get hi with ⟨rfl, h⟩ | ⟨rfl, h⟩
    · rw [← h]; kernel_rfl
    · rw [← h]; kernel_rfl
end Go.Proofs.Ytafolioeipfdpaa
