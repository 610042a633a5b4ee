/- The law TableLowest, put together. -/
import Derived.Test.YtafolioeipfdpaaWLaw
namespace Go.Proofs.Ytafolioeipfdpaa
open Go Sx Go.RowKit

def A1 (k : Nat) : Nat → Int := fun j => if j < k then (j : Int) + 3 else 0
theorem A1_upd (k : Nat) : upd (A1 k) k ((k + 3 : Nat) : Int) = A1 (k + 1) := by
  funext j
  simp only [upd, A1]
  by_cases h1 : j = k
  · subst h1; simp
  · rw [if_neg h1]
    by_cases h2 : j < k
    · rw [if_pos h2, if_pos (by omega)]
    · rw [if_neg h2, if_neg (by omega)]

/-- How the table stands behind i of the drops. -/
structure St (gs : List Int) (many i : Nat) (a : Nat → Int) (least : Nat) : Prop where
  rng : ∀ j, 0 ≤ a j ∧ a j < 65536
  zero : ∀ j, j < 960 → (a j = 0 ↔ many ≤ j ∨ ∃ k, k < i ∧ pg gs k = j)
  low : ∀ k, k < i → pg gs k < many → least ≤ pg gs k + 1
  got : least = many + 1 ∨ ∃ k, k < i ∧ pg gs k < many ∧ pg gs k + 1 = least
  le : least ≤ many + 1

theorem St.start (gs : List Int) {many : Nat} (hm : many ≤ 960) : St gs many 0 (A1 many) (many + 1) := by
  refine ⟨fun j => ?_, fun j _ => ?_, fun k hk => by omega, .inl rfl, Nat.le_refl _⟩
  · unfold A1; split <;> omega
  · unfold A1
    split
    · next h => exact ⟨fun e => by omega, fun e => by rcases e with e | ⟨k, hk, _⟩ <;> omega⟩
    · next h => exact ⟨fun _ => .inl (by omega), fun _ => rfl⟩

theorem St.drop {gs : List Int} {many i : Nat} {a : Nat → Int} {least : Nat} (s : St gs many i a least) : St gs many (i + 1) (upd a (pg gs i) 0) (if pg gs i < many then min least (pg gs i + 1) else least) := by
  have hle := s.le
  refine ⟨fun j => ?_, fun j hj => ?_, fun k hk hm => ?_, ?_, ?_⟩
  · unfold upd; split
    · omega
    · exact s.rng j
  · unfold upd
    split
    · next h => exact ⟨fun _ => .inr ⟨i, by omega, h.symm⟩, fun _ => rfl⟩
    · next h =>
      rw [s.zero j hj]
      constructor
      · rintro (h1 | ⟨k, hk, h1⟩)
        · exact .inl h1
        · exact .inr ⟨k, by omega, h1⟩
      · rintro (h1 | ⟨k, hk, h1⟩)
        · exact .inl h1
        · by_cases e : k = i
          · subst e; exact absurd h1.symm h
          · exact .inr ⟨k, by omega, h1⟩
  · by_cases e : k = i
    · subst e; rw [if_pos hm]; omega
    · have := s.low k (by omega) hm
      split <;> omega
  · split
    · next h =>
      by_cases h2 : least ≤ pg gs i + 1
      · rw [Nat.min_eq_left h2]
        rcases s.got with h3 | ⟨k, hk, h3⟩
        · exact .inl h3
        · exact .inr ⟨k, by omega, h3⟩
      · rw [Nat.min_eq_right (by omega)]
        exact .inr ⟨i, by omega, h, rfl⟩
    · rcases s.got with h3 | ⟨k, hk, h3⟩
      · exact .inl h3
      · exact .inr ⟨k, by omega, h3⟩
  · split <;> omega

theorem upd_same {a : Nat → Int} {j : Nat} {x : Int} (h : a j = x) : upd a j x = a := by
  funext i
  simp only [upd]
  split
  · next e => rw [e, h]
  · rfl

theorem sl_get (off len cap i : Nat) (h : H) (hi : i ≤ len) (hc : len ≤ cap) : sliceI tab 23 (.slice 0 off len (.hard cap)) none (some (.int .i64 i)) none h = some (.slice 0 off i (.hard cap)) := by
  have h1 := t23
  unfold sliceI
  cases ht : tab.get 23 with
  | none => rw [ht] at h1; cases h1
  | some ty =>
    have h2 := t22
    cases he : tab.get 22 with
    | none => rw [he] at h2; cases h2
    | some et =>
      rw [ht] at h1
      simp only [Option.map_some, Option.some.injEq] at h1
      have hb : boundI (some (IV.int .i64 (i : Int))) len = some i := by simp [boundI]
      simp only [h1, he, hb]
      simp only [boundI]
      rw [show (Nat.ble 0 i && Nat.ble i cap && Nat.ble cap cap && ((none : Option IV).isNone || (some (IV.int .i64 (i : Int))).isSome)) = true by
        simp [Nat.ble_eq]; omega]
      simp

/-- What the law is handed. -/
inductive Gv (gs : List Int) : IV → Option (Bx × Bool) → Prop
  | nil : gs = [] → Gv gs .nilslice none
  | slice (off len cap : Nat) : len ≤ gs.length → len ≤ cap → Gv gs (.slice 0 off len (.hard cap)) (rows off gs)

theorem c1 {k many : Nat} : IV.bool (decide (((k + 1 : Nat) : Int) ≤ many)) = .bool (decide (k < many)) := by
  congr 1; rw [decide_eq_decide]; omega

theorem law_sp (n : Int) (hn : 0 ≤ n ∧ n < 65536) (gs : List Int) (hu : U16 gs) (gv : IV) (g0 : Option (Bx × Bool)) (hg : Gv gs gv g0) :
    Sp Try.prog 3 [.int .u16 n, gv] (h00 g0) fun v _ => v = .bool true := by
  refine Sp.of_ev tab_ok Try.func3 (c := bodyC Try.prog 3) (by kernel_rfl) (Nat.le_of_ble_eq_true rfl) ?_
  show Ev Try.prog none 109 (bodyC Try.prog 3) (BodyQ tab [.tmp 4] _) _ _
  obtain ⟨many, hm, hmn⟩ : ∃ many : Nat, many ≤ 960 ∧ n.tmod 961 = many := ⟨n.toNat % 961, by omega, by rw [Int.tmod_eq_emod_of_nonneg hn.1]; omega⟩
  -- the end, from any state behind the second loop
  have fin : ∀ i a d least fr g, St gs many i a least → FrIs 109 fr (ov [1, 5, 6, 10, 11] (liveD gv many least i) g) [] → EvS Try.prog none 109 (l3.drop 12) (BodyQ tab [.tmp 4] fun v _ => v = .bool true) fr (hp g0 a d) := by
    intro i a d least fr g st hf
    have hpos : ∀ j, j < 960 → j < many → (∀ k, k < i → pg gs k ≠ j) → 0 < a j := fun j hj hjm hk => by
      have := st.rng j
      have hz : a j ≠ 0 := fun e => by
        rcases (st.zero j hj).1 e with h1 | ⟨k, hk1, hk2⟩
        · omega
        · exact hk k hk1 hk2
      omega
    have hle := st.le
    by_cases hfull : 960 < least
    · refine EvS.pxEnd tab_ok mixed hf (List.cons_ne_nil _ _) (runE_full _ gv many least i g) ⟨cl_of enters6 (low_full g0 a d fun j hj => hpos j hj (by omega) fun k hk e => ?_), by rw [decide_eq_true (by omega)], trivial⟩ fun fr2 g2 hf2 => ?_
      · have := st.low k hk (by omega); omega
      · obtain ⟨h1, h2, h3, h4, h5, h6, h7⟩ := bodyQ_tmp (T := tab) (h := hp g0 a d) (o := .ret) hf2 (by decide) (show ov [4] [IV.bool true] g2 4 = IV.bool true from rfl) (.inr rfl)
        exact ⟨h1, h2, h3, h4, h5, h6⟩
    · obtain ⟨k0, rfl⟩ : ∃ k0, least = k0 + 1 := ⟨least - 1, by
        rcases st.got with h | ⟨k, _, _, h⟩ <;> omega⟩
      have hz : a k0 = 0 := (st.zero k0 (by omega)).2 (by
        rcases st.got with h | ⟨k, hk, _, h⟩
        · exact .inl (by omega)
        · exact .inr ⟨k, hk, by omega⟩)
      refine EvS.pxEnd tab_ok mixed hf (List.cons_ne_nil _ _) (runE_hit _ gv many (k0 + 1) i g) ⟨cl_of enters6 (low_hit g0 a d (by omega) hz fun j hj => hpos j (by omega) (by omega) fun k hk e => ?_), by rw [decide_eq_false (by omega)], by simp, trivial⟩ fun fr2 g2 hf2 => ?_
      · have := st.low k hk (by omega); omega
      · obtain ⟨h1, h2, h3, h4, h5, h6, h7⟩ := bodyQ_tmp (T := tab) (h := hp g0 a d) (o := .ret) hf2 (by decide) (show ov [4] [IV.bool true] g2 4 = IV.bool true from rfl) (.inr rfl)
        exact ⟨h1, h2, h3, h4, h5, h6⟩
  refine Ev.of_flat l3_eq ?_
  refine EvS.px tab_ok mixed (FrIs.start 109 _) (by simp) (runA g0 n many gv) ⟨works_cl _, by rw [wrap64 (by omega) (by omega)], by rw [hmn], trivial⟩ fun fr g hf => ?_
  refine EvS.loop (fun m fr h => ∃ k d, k ≤ many ∧ m = many - k ∧ h = hp g0 (A1 k) d ∧ ∃ g, FrIs 109 fr (ov [1, 5, 6, 7] [gv, .ptr 1 0, .int .i64 many, .int .i64 ((k + 1 : Nat) : Int)] g) []) many
    ⟨0, 0, by omega, by omega, by congr 1, g, hf⟩ ?_
  rintro m fr h ⟨k, d, hk, rfl, rfl, g, hf⟩
  by_cases hlt : k < many
  · obtain ⟨d', hset⟩ := set_cl g0 (A1 k) d ((k + 3 : Nat) : Int) (j := k) (by omega) (by omega) (by omega)
    rw [A1_upd] at hset
    refine Ev.px tab_ok mixed hf (runB_go _ (hp g0 (A1 (k + 1)) d') k many gv g) ⟨by rw [decide_eq_true (by omega)], cl_of enters6 (low_hit g0 (A1 k) d (k0 := k) (by omega) (by simp [A1]) fun j hj => by simp only [A1]; rw [if_pos hj]; omega), by simp, ?_, ?_, ?_, trivial⟩ fun fr' g' hf' => ?_
    · rw [wrap64 (by omega) (by omega)]; congr 1; omega
    · rw [show ((k + 1 : Nat) : Int) = (k : Int) + 1 by omega]; exact hset
    · rw [wrap64 (by omega) (by omega)]; congr 1
    · exact ⟨many - (k + 1), by omega, k + 1, d', by omega, rfl, rfl, g', hf'⟩
  · have hke : k = many := by omega
    subst hke
    refine Ev.px tab_ok mixed hf (runB_end _ k k gv g) ⟨by rw [decide_eq_false (by omega)], trivial⟩ fun fr' g' hf' => RoundEnds.out ?_
    rw [l3_eq2]
    refine EvS.px tab_ok mixed hf' (by simp) (runC _ k gv g') ⟨w_inc (by omega), trivial⟩ fun fr g hf => ?_
    refine EvS.loop (fun m fr h => ∃ i a d least, i ≤ gs.length ∧ m = gs.length - i ∧ h = hp g0 a d ∧ St gs k i a least ∧ ∃ g, FrIs 109 fr (ov [1, 5, 6, 10, 11] (liveD gv k least i) g) []) gs.length
      ⟨0, A1 k, d, k + 1, by omega, by omega, rfl, St.start gs hm, g, hf⟩ ?_
    rintro m fr h ⟨i, a, d, least, hi, rfl, rfl, st, g, hf⟩
    cases hg with
    | nil hnil =>
      subst hnil
      obtain rfl : i = 0 := by simpa using hi
      refine Ev.px tab_ok mixed hf (runD_nil _ k least g) trivial fun fr' g' hf' => RoundEnds.out (fin 0 a d least _ _ st hf')
    | slice off len cap hlen hcap =>
      have hpl := pg_lt gs i
      by_cases hil : i < len
      · by_cases h50 : i < 50
        · have hix : indexAddrI tab 23 (.slice 0 off len (.hard cap)) (.int .i64 i) = some (.ptr 0 (off + i)) := by rw [ix_sl t23 t22 hil]; simp
          have hz := st.zero (pg gs i) hpl
          by_cases hlow : pg gs i < k
          · have hmin : IV.int .i64 (if (pg gs i : Int) + 1 < least then (pg gs i : Int) + 1 else least) = .int .i64 ((if pg gs i < k then min least (pg gs i + 1) else least : Nat) : Int) := by
              have hh : (if (pg gs i : Int) + 1 < least then (pg gs i : Int) + 1 else (least : Int)) = ((min least (pg gs i + 1) : Nat) : Int) := by split <;> omega
              rw [if_pos hlow, hh]
            by_cases h0 : a (pg gs i) = 0
            · have hb : ∃ k', k' < i ∧ pg gs k' = pg gs i := by
                rcases hz.1 h0 with h1 | h1
                · omega
                · exact h1
              refine Ev.px tab_ok mixed hf (runD_b a d gs off cap len i k least _ g) ⟨by rw [decide_eq_true (by omega)], by rw [decide_eq_true (by omega)], hix, ro_ld (by omega), w_conv hu i, w_rem hu i, w_add gs i,
                drop_cl0 _ a d hpl h0, by rw [decide_eq_true (by omega)], sl_get off len cap i _ (by omega) hcap, cl_of enters9 (before_sp off i cap (pg gs i) gs a d hu (by omega) (by omega) true ⟨fun _ => hb, fun _ => rfl⟩), by rw [decide_eq_true (by omega)], hmin, w_inc (by omega), trivial⟩ fun fr' g' hf' => ?_
              have := st.drop
              rw [upd_same h0] at this
              exact ⟨gs.length - (i + 1), by omega, i + 1, a, d, _, by omega, rfl, rfl, this, g', hf'⟩
            · have hb : ¬ ∃ k', k' < i ∧ pg gs k' = pg gs i := fun e => h0 (hz.2 (.inr e))
              obtain ⟨d', hd⟩ := drop_cl (rows off gs) a d hpl h0 (st.rng _)
              refine Ev.px tab_ok mixed hf (runD_a a d (hp (rows off gs) (upd a (pg gs i) 0) d') gs off cap len i k least _ g) ⟨by rw [decide_eq_true (by omega)], by rw [decide_eq_true (by omega)], hix, ro_ld (by omega), w_conv hu i, w_rem hu i, w_add gs i,
                hd, by rw [decide_eq_true (by omega)], sl_get off len cap i _ (by omega) hcap, cl_of enters9 (before_sp off i cap (pg gs i) gs _ d' hu (by omega) (by omega) false ⟨fun e => (by cases e), fun e => absurd e hb⟩), by rw [decide_eq_true (by omega)], hmin, w_inc (by omega), trivial⟩ fun fr' g' hf' => ?_
              exact ⟨gs.length - (i + 1), by omega, i + 1, _, d', _, by omega, rfl, rfl, st.drop, g', hf'⟩
          · have h0 : a (pg gs i) = 0 := hz.2 (.inl (by omega))
            refine Ev.px tab_ok mixed hf (runD_c a d gs off cap len i k least g) ⟨by rw [decide_eq_true (by omega)], by rw [decide_eq_true (by omega)], hix, ro_ld (by omega), w_conv hu i, w_rem hu i, w_add gs i,
              drop_cl0 _ a d hpl h0, by rw [decide_eq_false (by omega)], by rw [decide_eq_false (by omega)], w_inc (by omega), trivial⟩ fun fr' g' hf' => ?_
            have := st.drop
            rw [upd_same h0, if_neg hlow] at this
            exact ⟨gs.length - (i + 1), by omega, i + 1, a, d, _, by omega, rfl, rfl, this, g', hf'⟩
        · refine Ev.px tab_ok mixed hf (runD_end50 _ gs off cap len i k least g) ⟨by rw [decide_eq_true (by omega)], by rw [decide_eq_false (by omega)], trivial⟩ fun fr' g' hf' => RoundEnds.out (fin i a d least _ _ st hf')
      · refine Ev.px tab_ok mixed hf (runD_end _ gs off cap len i k least g) ⟨by rw [decide_eq_false (by omega)], trivial⟩ fun fr' g' hf' => RoundEnds.out (fin i a d least _ _ st hf')
end Go.Proofs.Ytafolioeipfdpaa
