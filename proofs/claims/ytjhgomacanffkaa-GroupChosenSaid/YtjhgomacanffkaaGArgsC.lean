/- From the model's arguments to the ideal machine's: a hall, an array of bools, two numbers. -/
import Derived.Test.YtjhgomacanffkaaGArgs
import Derived.Test.YtjhgomacanffkaaGChosen
namespace Go.Proofs.Ytjhgomacanffkaa
open Go Sx Go.ChangeShapes Go.WideShapes Go.ChangeAt Go.RowKit
set_option linter.unusedVariables false

def tkV (tk : Nat → Bool) : Value := .agg ((List.range 64).map fun j => Value.bool (tk j)).toArray
theorem den_tkL (E : Env) (tk : Nat → Bool) : (IV.agg (tkL tk)).den E = tkV tk := by
  simp only [IV.den, tkV, denL_eq, tkL, List.map_map]
  rfl
theorem under_tkL (n : Nat) (tk : Nat → Bool) : (IV.agg (tkL tk)).under n := by
  simp only [IV.under]
  refine (underL_iff _ _).2 fun v hv => ?_
  unfold tkL at hv
  obtain ⟨j, _, rfl⟩ := List.mem_map.1 hv
  simp [IV.under]
theorem cells4 : Try.prog.cellsOf 4 = 1 := by kernel_rfl
theorem cells3 : Try.prog.cellsOf 3 = 1 := by kernel_rfl
theorem cells39 : Try.prog.cellsOf 39 = 2 := by kernel_rfl
theorem cells22 : Try.prog.cellsOf 22 = 1 := by kernel_rfl
theorem ctypes24 : Try.prog.cellTypes Try.prog.depth 24 = some [22] := by kernel_rfl

/-- A hall, in the model. -/
def HallArg (w : World) (v : Value) (qs : List (Int × Int)) : Prop :=
  (v = .agg #[.slice none 0 0] ∧ qs = []) ∨ ∃ b off cap, v = .agg #[.slice (some ⟨b, off, none⟩) qs.length cap] ∧ qs.length ≤ cap ∧ (∃ c e fr, w.heap[b]? = some (.cells c e fr)) ∧
    ∀ i r, qs[i]? = some r → w.cell? ⟨b, off + i * 2, none⟩ = some (.int .i64 r.1) ∧ w.cell? ⟨b, off + i * 2 + 1, none⟩ = some (.int .u8 r.2)

theorem rowC_get : ∀ (ps : List (Int × Int)) (j : Nat) (v : IV), (rowC ps)[j]? = some v → ∃ i r, ps[i]? = some r ∧ ((j = i * 2 ∧ v = .int .i64 r.1) ∨ (j = i * 2 + 1 ∧ v = .int .u8 r.2))
  | [], j, v, h => by simp [rowC] at h
  | a :: ps, 0, v, h => by
    simp [rowC, row] at h; subst h
    exact ⟨0, a, rfl, .inl ⟨rfl, rfl⟩⟩
  | a :: ps, 1, v, h => by
    simp [rowC, row] at h; subst h
    exact ⟨0, a, rfl, .inr ⟨rfl, rfl⟩⟩
  | a :: ps, j + 2, v, h => by
    obtain ⟨i, r, h1, h2⟩ := rowC_get ps j v (by simpa [rowC, row] using h)
    exact ⟨i + 1, r, by simpa using h1, h2.imp (fun ⟨e, f⟩ => ⟨by omega, f⟩) fun ⟨e, f⟩ => ⟨by omega, f⟩⟩

theorem hall_ro {qs : List (Int × Int)} {off cap : Nat} (hm : ∀ r ∈ qs, 0 ≤ r.2 ∧ r.2 < 256) (hc : qs.length ≤ cap) : HallX (.ro off (rowC qs)) off (min qs.length 10) (.hard cap) (qs.take (min (min qs.length 10) 8)) := by
  have hq : ∀ i r, (qs.take (min (min qs.length 10) 8))[i]? = some r → qs[i]? = some r := fun i r h => by
    have hlt := (List.getElem?_eq_some_iff.1 h).1
    rw [List.length_take] at hlt
    rwa [List.getElem?_take_of_lt (by omega)] at h
  have hl : (qs.take (min (min qs.length 10) 8)).length = min (min qs.length 10) 8 := by rw [List.length_take]; omega
  refine ⟨rowC_flat _, hl, fun wr i r h => ?_, fun wr i r h => ?_, fun wr i r h => ?_, fun r hr => hm r (List.mem_of_mem_take hr), ⟨.hard cap, fun b h wr _ => ?_⟩⟩
  · have := (rowC_agg qs true i r (hq i r h)).1
    show roC true 2 off (rowC qs) (off + i * 2) = _
    unfold roC
    rw [show off + i * 2 - off = 0 + i * 2 by omega, Nat.ble_eq_true_of_le (by omega : off ≤ off + i * 2)]
    simpa [ldX, ldC] using this
  · have := (rowC_agg qs true i r (hq i r h)).2.1
    show roC false 1 off (rowC qs) (off + i * 2) = _
    unfold roC
    rw [show off + i * 2 - off = 0 + i * 2 by omega, Nat.ble_eq_true_of_le (by omega : off ≤ off + i * 2)]
    simpa [ldX, ldC] using this
  · have := (rowC_agg qs true i r (hq i r h)).2.2
    show roC false 1 off (rowC qs) (off + i * 2 + 1) = _
    unfold roC
    rw [show off + i * 2 + 1 - off = 0 + i * 2 + 1 by omega, Nat.ble_eq_true_of_le (by omega : off ≤ off + i * 2 + 1)]
    simpa [ldX, ldC] using this
  · have h1 := t22d
    have h2 := t39s
    rw [hl]
    generalize hk : min (min qs.length 10) 8 = k
    unfold sliceI
    cases ht : tab.get 22 with
    | none => rw [ht] at h1; cases h1
    | some ty =>
      cases he : tab.get 39 with
      | none => rw [he] at h2; cases h2
      | some et =>
        rw [ht] at h1; rw [he] at h2
        simp only [Option.map_some, Option.some.injEq] at h1 h2
        simp only [h1, he, boundI]
        rw [if_pos (by omega)]
        simp only [Int.toNat_natCast]
        rw [Nat.ble_eq_true_of_le (Nat.zero_le _), Nat.ble_eq_true_of_le (by omega : k ≤ cap), Nat.ble_eq_true_of_le (Nat.le_refl cap)]
        simp

theorem hB_get {o0 : Option (Bx × Bool)} {i : Nat} {x : Bx × Bool} (h : (hB o0).get i = some x) : i = 0 ∧ o0 = some x := by
  have h1 : i < 1 := hB_dom o0 i x h
  obtain rfl : i = 0 := by omega
  exact ⟨rfl, h⟩
theorem rel_hB (P : Program) {o0 : Option (Bx × Bool)} {E : Env} {w : World} (h0 : ∀ x, o0 = some x → ORel P E 1 0 x.1 w.heap[E.ρ 0]? ∧ E.ρ 0 < w.heap.size ∧ x.2 = false) : Rel P w E (hB o0) w := by
  have fl : ∀ i x, (hB o0).get i = some x → x.2 = false := fun i x hi => (h0 _ (hB_get hi).2).2.2
  refine ⟨Below.refl _ _, fun i x hi => hB_dom o0 i x hi, fun i o wr hi => ?_, fun i o hi => ?_, fun i j x y hi hj hw _ => ?_⟩
  · obtain ⟨rfl, e⟩ := hB_get hi
    exact ⟨(h0 _ e).1, (h0 _ e).2.1⟩
  · have := fl _ _ hi; cases this
  · rcases hw with hw | hw
    · rw [fl _ _ hi] at hw; cases hw
    · rw [fl _ _ hj] at hw; cases hw

def askV (c0 a1 : Int) : Value := .agg #[.int .i64 c0, .int .i64 a1]
theorem walk3 (w : World) {v0 : Value} {qs : List (Int × Int)} {tk : Nat → Bool} {c0 a1 : Int} (h0 : HallArg w v0 qs) (hm : ∀ r ∈ qs, 0 ≤ r.2 ∧ r.2 < 256) :
    Calls Try.prog 3 #[v0, tkV tk, askV c0 a1] w fun e w' => e = .returned (.bool true) ∧ Below w.heap.size w w' := by
  rcases h0 with ⟨rfl, rfl⟩ | ⟨b, off, cap, rfl, hl, ⟨c, e, fr, hb⟩, hcell⟩
  · let E : Env := ⟨fun _ => 0, id⟩
    have hrel : Rel Try.prog w E (hB none) w := rel_hB _ (fun x hx => by cases hx)
    have := law3_nil none tk c0 a1 w E w hrel (by
      simp only [underL, and_true]
      exact ⟨by simp [IV.under, underL], under_tkL _ tk, by simp [IV.under, underL]⟩)
    rw [show denL E [.agg [.nilslice], .agg (tkL tk), .agg [.int .i64 c0, .int .i64 a1]] = [.agg #[.slice none 0 0], tkV tk, askV c0 a1] by simp only [denL, den_tkL]; rfl] at this
    refine (callsIn_wide.1 this).mono ?_
    rintro e w' ⟨v, h2, E', rfl, hr, _, _, rfl⟩
    exact ⟨rfl, hr.below⟩
  · let E : Env := ⟨fun _ => b, id⟩
    have hrel : Rel Try.prog w E (hB (some (.ro off (rowC qs), false))) w := rel_hB _ (fun x hx => by
      simp only [Option.some.injEq] at hx
      subst hx
      refine ⟨⟨⟨c, e, fr, hb, fun j v hj => ?_⟩, underL_of_flat _ _ (rowC_flat qs)⟩, (Array.getElem?_eq_some_iff.1 hb).1, rfl⟩
      obtain ⟨i', r, hr, h2⟩ := rowC_get qs j v hj
      obtain ⟨a1, a2⟩ := hcell i' r hr
      rcases h2 with ⟨rfl, rfl⟩ | ⟨rfl, rfl⟩
      · exact cell_of hb a1
      · rw [← Nat.add_assoc]; exact cell_of hb a2)
    have := law3_sl (hall_ro hm hl) hl tk c0 a1 w E w hrel (by
      simp only [underL, and_true]
      exact ⟨by simp [IV.under, underL, hB], under_tkL _ tk, by simp [IV.under, underL]⟩)
    rw [show denL E [.agg [.slice 0 off qs.length (.hard cap)], .agg (tkL tk), .agg [.int .i64 c0, .int .i64 a1]] = [.agg #[.slice (some ⟨b, off, none⟩) qs.length cap], tkV tk, askV c0 a1] by simp only [denL, den_tkL]; rfl] at this
    refine (callsIn_wide.1 this).mono ?_
    rintro e w' ⟨v, h2, E', rfl, hr, _, _, rfl⟩
    exact ⟨rfl, hr.below⟩

section
variable {H : Type} {enc : TypeId × Value → H} {w : World} {base0 base : Nat} {held : Bool} {r : Reach}
theorem bools_of {v : Value} {d : DataW H} {p : List MemPlace} (hval : Value.okWide Try.prog w r base0 25 v) (h : DataW.Trod enc Try.prog w base (fun _ => true) held 25 v d p) : ∃ tk, v = tkV tk := by
  have hval' := hval
  simp only [Value.okWide, Try.underlying25] at hval'
  obtain ⟨cs, rfl, hsz, _⟩ := hval'
  have hsz : cs.size = 64 := by rw [hsz]; kernel_rfl
  obtain ⟨fuel, hf⟩ := h
  obtain ⟨xs, k, _, _, _, hxl, hf⟩ := DataW.trod_array Try.underlying25 hf
  have each : ∀ j, j < 64 → ∃ b, cs[j]? = some (.bool b) := by
    intro j hj
    have g := hf j (by omega)
    rw [cells4, List.getElem?_eq_getElem (by omega)] at g
    obtain ⟨b, hb, _⟩ := DataW.trod_bool Try.underlying4 g
    refine ⟨b, ?_⟩
    have hl : ((Value.agg cs).cells.toList.drop (j * 1)).take 1 = [.bool b] := hb
    have : (((Value.agg cs).cells.toList.drop (j * 1)).take 1)[0]? = some (.bool b) := by rw [hl]; rfl
    simpa [Value.cells] using this
  refine ⟨fun j => match cs[j]? with | some (.bool b) => b | _ => false, ?_⟩
  unfold tkV
  congr 1
  refine Array.ext (by simp [hsz]) fun i h1 h2 => ?_
  obtain ⟨b, hb⟩ := each i (by omega)
  have he := (Array.getElem?_eq_some_iff.1 hb).2
  rw [he]
  simp [hb]
theorem ask_of {v : Value} {d : DataW H} {p : List MemPlace} (hval : Value.okWide Try.prog w r base0 26 v) (h : DataW.Trod enc Try.prog w base (fun _ => true) held 26 v d p) : ∃ c0 a1, v = askV c0 a1 := by
  have hval' := hval
  simp only [Value.okWide, Try.underlying26] at hval'
  obtain ⟨cs, rfl, hsz, _⟩ := hval'
  have hsz : cs.size = 2 := by rw [hsz]; kernel_rfl
  obtain ⟨fuel, hf⟩ := h
  obtain ⟨xs, k, _, _, _, hxl, hf⟩ := DataW.trod_array Try.underlying26 hf
  have each : ∀ j, j < 2 → ∃ b, cs[j]? = some (.int .i64 b) := by
    intro j hj
    have g := hf j (by omega)
    rw [cells3, List.getElem?_eq_getElem (by omega)] at g
    obtain ⟨b, hb, _⟩ := DataW.trod_int Try.underlying3 g
    refine ⟨b, ?_⟩
    have hl : ((Value.agg cs).cells.toList.drop (j * 1)).take 1 = [.int .i64 b] := hb
    have : (((Value.agg cs).cells.toList.drop (j * 1)).take 1)[0]? = some (.int .i64 b) := by rw [hl]; rfl
    simpa [Value.cells] using this
  obtain ⟨c0, hc0⟩ := each 0 (by decide)
  obtain ⟨a1, ha1⟩ := each 1 (by decide)
  refine ⟨c0, a1, ?_⟩
  unfold askV
  congr 1
  refine Array.ext (by simp [hsz]) fun i h1 h2 => ?_
  have hi : i = 0 ∨ i = 1 := by simp at h2; omega
  rcases hi with rfl | rfl
  · rw [(Array.getElem?_eq_some_iff.1 hc0).2]; rfl
  · rw [(Array.getElem?_eq_some_iff.1 ha1).2]; rfl

theorem open_rows {fuel : Nat} {cs : List Value} {x : DataW H × List MemPlace} (h : DataW.trod enc Try.prog w base (fun _ => true) held fuel 22 cs = some x) :
    cs = [.slice none 0 0] ∨ ∃ (a : Addr) (len cap : Nat) (f : Nat → Int × Int), cs = [.slice (some a) len cap] ∧ len ≤ cap ∧
      ∀ i, i < len → w.cell? (a.add (i * 2)) = some (.int .i64 (f i).1) ∧ w.cell? (a.add (i * 2 + 1)) = some (.int .u8 (f i).2) ∧ 0 ≤ (f i).2 ∧ (f i).2 < 256 := by
  rcases Go.Deep.open_slice Try.underlying22 h with ⟨h0, _⟩ | ⟨a, len, cap, m, n, D, Pl, rfl, _, hl, _, hm, _, hx⟩
  · exact .inl h0
  refine .inr ?_
  simp only [if_true] at hm
  have each : ∀ i, i < len → ∃ q : Int × Int, w.cell? (a.add (i * 2)) = some (.int .i64 q.1) ∧ w.cell? (a.add (i * 2 + 1)) = some (.int .u8 q.2) ∧ 0 ≤ q.2 ∧ q.2 < 256 := by
    intro i hi
    obtain ⟨cs', h1, h2⟩ := hx i (by omega)
    rw [cells39] at h1
    obtain ⟨_, hlen, hcell⟩ := World.cells?_some h1
    obtain ⟨y0, y1, k, _, hl2, g0, g1⟩ := trod_struct2 Try.underlying39 h2
    match cs', hlen with
    | [v0, v1], _ =>
      rw [show Try.prog.cellsOf _ = 1 from cells3] at g0
      rw [show Try.prog.cellsOf _ = 1 from cells5] at g1
      obtain ⟨n0, r0, _, w0⟩ := DataW.trod_int Try.underlying3 g0
      obtain ⟨n1, r1, _, w1⟩ := DataW.trod_int Try.underlying5 g1
      have e0 := hcell 0 (by decide)
      have e1 := hcell 1 (by decide)
      rw [Go.Deep.add_add] at e0 e1
      simp at r0 r1
      subst r0
      subst r1
      exact ⟨(n0, n1), by simpa using e0, by simpa using e1, u8_wf w1⟩
  obtain ⟨f, hf⟩ := Go.Deep.choose_lt each
  exact ⟨a, len, cap, f, rfl, hl, hf⟩
theorem hall_of {v : Value} {d : DataW H} {p : List MemPlace} (hval : Value.okWide Try.prog w r base0 24 v) (h : DataW.Trod enc Try.prog w base (fun _ => true) held 24 v d p) :
    ∃ qs, HallArg w v qs ∧ ∀ r ∈ qs, 0 ≤ r.2 ∧ r.2 < 256 := by
  have hval' := hval
  simp only [Value.okWide, Try.underlying24] at hval'
  obtain ⟨cs, rfl, hsz, ts, hts, _, hrow⟩ := hval'
  rw [ctypes24] at hts
  cases hts
  have hsz : cs.size = 1 := by rw [hsz]; kernel_rfl
  obtain ⟨c0, hc0⟩ : ∃ c0, cs = #[c0] := ⟨cs[0], by
    refine Array.ext (by simp [hsz]) fun i h1 h2 => ?_
    obtain rfl : i = 0 := by simp at h2; omega
    rfl⟩
  subst hc0
  obtain ⟨u, hu, hcw⟩ := hrow 0 c0 rfl
  have hu : u = 22 := by simpa using hu.symm
  subst hu
  have hval22 : Value.okWide Try.prog w r base0 22 c0 := by simp only [Value.okWide, Try.underlying22]; exact hcw
  obtain ⟨fuel, hf⟩ := h
  obtain ⟨y0, k, _, _, hf⟩ := trod_struct1 Try.underlying24 hf
  have hf : DataW.trod enc Try.prog w base (fun _ => true) held k 22 [c0] = some y0 := by
    rw [show Try.prog.cellsOf _ = 1 from cells22] at hf
    exact hf
  rcases open_rows hf with hcs | ⟨a, len, cap, f, hcs, hl, hcell⟩
  · simp at hcs
    subst hcs
    exact ⟨[], .inl ⟨rfl, rfl⟩, by simp⟩
  · simp at hcs
    subst hcs
    obtain ⟨b, off, rfl, hblk⟩ := has_block Try.underlying22 hval22
    have hlen : ((List.range len).map f).length = len := by simp
    refine ⟨(List.range len).map f, .inr ⟨b, off, cap, by rw [hlen], by rw [hlen]; exact hl, hblk, fun i q hq => ?_⟩, fun q hq => ?_⟩
    · have hi : i < len := by have := (List.getElem?_eq_some_iff.1 hq).1; simpa using this
      have hqe : q = f i := by simpa [hi] using hq.symm
      subst hqe
      have := hcell i hi
      rw [Addr.add_mk, Addr.add_mk] at this
      exact ⟨this.1, by rw [Nat.add_assoc]; exact this.2.1⟩
    · obtain ⟨i, hi, rfl⟩ := List.mem_map.1 hq
      exact (hcell i (List.mem_range.1 hi)).2.2
end
end Go.Proofs.Ytjhgomacanffkaa
