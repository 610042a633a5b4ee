/- PROVED: TableLowest returns true, and what it is handed reads as it did: at every start, for every n and every slice. Conditions: none. (The row's step was written by the seat's proof-skeleton for another law, and turned to this one.) -/
import Derived.Test.YtafolioeipfdpaaRows
import Derived.Test.YtafolioeipfdpaaWLaw2
import Derived.WalkKit
import Derived.ProofKit
import Derived.OpenShut
namespace Go.Proofs.Ytafolioeipfdpaa
open Go Sx Go.ChangeShapes Go.WideShapes Go.ChangeAt Go.RowKit
set_option linter.unusedVariables false

theorem own : ownKnob Try.prog.godebug = none := by kernel_rfl
theorem laidOut : laidOutB Try.prog = true := by kernel_rfl
theorem cells22 : Try.prog.cellsOf 22 = 1 := by kernel_rfl

/-! ### From the ideal machine to the model -/
theorem h00_get {g0 : Option (Bx × Bool)} {i : Nat} {x : Bx × Bool} (h : (h00 g0).get i = some x) : i = 0 ∧ g0 = some x := by
  unfold h00 H.get Tr.get at h
  by_cases h0 : i = 0
  · subst h0; exact ⟨rfl, h⟩
  · rw [beqE, decide_eq_false h0] at h
    simp only [cond_false] at h
    cases hb : Nat.beq (i % 2) 1 <;> (rw [hb] at h; simp [Tr.get] at h)

theorem rel_h00 (P : Program) {g0 : Option (Bx × Bool)} {E : Env} {w : World} (h : ∀ x, g0 = some x → ORel P E 1 0 x.1 w.heap[E.ρ 0]? ∧ E.ρ 0 < w.heap.size ∧ x.2 = false) : Rel P w E (h00 g0) w := by
  refine ⟨Below.refl _ _, fun i x hi => ?_, fun i o wr hi => ?_, fun i o hi => ?_, fun i j x y hi hj _ => ?_⟩
  · have := (h00_get hi).1; subst this; exact Nat.lt_succ_self 0
  · obtain ⟨rfl, e⟩ := h00_get hi
    exact ⟨(h _ e).1, (h _ e).2.1⟩
  · obtain ⟨rfl, e⟩ := h00_get hi
    exact absurd (h _ e).2.2 (by simp)
  · rw [(h00_get hi).1, (h00_get hj).1]

theorem walk_nil (n : Int) (hn : 0 ≤ n ∧ n < 65536) (w : World) :
    Calls Try.prog 3 #[.int .u16 n, .slice none 0 0] w fun e w' => e = .returned (.bool true) ∧ Below w.heap.size w w' := by
  have := law_sp n hn [] (fun z hz => by cases hz) .nilslice none (.nil rfl) w ⟨id, id⟩ w (rel_h00 _ fun x e => by cases e) (by simp [underL, IV.under])
  refine (callsIn_wide.1 this).mono ?_
  rintro e w' ⟨v, h2, E', rfl, hr, _, _, rfl⟩
  exact ⟨rfl, hr.below⟩

theorem walk_slice (n : Int) (hn : 0 ≤ n ∧ n < 65536) (w : World) (b off len cap : Nat) (zs : List Int) (hu : U16 zs) (hl : len ≤ zs.length) (hc : len ≤ cap)
    (hblk : ∃ c e fr, w.heap[b]? = some (.cells c e fr)) (hcell : ∀ i, i < zs.length → w.cell? ⟨b, off + i, none⟩ = some (.int .u16 (zs.getD i 0))) :
    Calls Try.prog 3 #[.int .u16 n, .slice (some ⟨b, off, none⟩) len cap] w fun e w' => e = .returned (.bool true) ∧ Below w.heap.size w w' := by
  have hrel : Rel Try.prog w ⟨fun _ => b, id⟩ (h00 (rows off zs)) w := by
    refine rel_h00 _ fun x e => ?_
    simp only [rows, Option.some.injEq] at e
    subst e
    obtain ⟨c, e, fr, hb⟩ := hblk
    refine ⟨⟨⟨c, e, fr, hb, fun j v hj => ?_⟩, underL_of_flat _ _ ?_⟩, (Array.getElem?_eq_some_iff.1 hb).1, rfl⟩
    · rw [List.getElem?_map] at hj
      cases hz : zs[j]? with
      | none => rw [hz] at hj; cases hj
      | some z =>
        rw [hz] at hj
        simp only [Option.map_some, Option.some.injEq] at hj
        subst hj
        have := hcell j (List.getElem?_eq_some_iff.1 hz).1
        simp only [World.cell?, hb] at this
        rw [List.getD_eq_getElem?_getD, hz] at this
        simpa [IV.den] using this
    · have : ∀ l : List Int, flatL (l.map fun z => IV.int .u16 z) = true := by
        intro l
        induction l with
        | nil => rfl
        | cons a l ih => simp [flatL, IV.flat]; simpa using ih
      exact this zs
  have := law_sp n hn zs hu _ _ (.slice off len cap hl hc) w ⟨fun _ => b, id⟩ w hrel (by simp [underL, IV.under, h00])
  refine (callsIn_wide.1 this).mono ?_
  rintro e w' ⟨v, h2, E', rfl, hr, _, _, rfl⟩
  exact ⟨rfl, hr.below⟩

/-- Behind a law that makes new blocks alone. -/
theorem post_of_old {H : Type} {enc : TypeId × Value → H} {P : Program} {f : Func} {s : ChangeSpec} {apart fresh handsOn : Bool} {W W' : World} {args : Array Value} {v : Value} {ds gs : List (DataW H)} {before pa pv : List MemPlace}
    (hW : DataW.Whole enc P f.params.toList s.vars apart W args.toList ds gs before)
    (hres : ∀ (b : Nat) (sp : Nat → Bool) (hd : Bool), DataW.TrodAll enc P W' b sp hd f.resultTypes.toList (v.resultList f.resultTypes.size) (s.fn H (ds ++ gs)).results [])
    (hargs : DataW.TrodAll enc P W' 0 (fun b => decide (b < W.heap.size)) true f.params.toList args.toList (s.fn H (ds ++ gs)).args pa)
    (hvars : DataW.TrodVars enc P W' (fun b => decide (b < W.heap.size)) s.vars (s.fn H (ds ++ gs)).vars pv)
    (hps : before = pa ++ pv) (hb : Below W.heap.size W W') :
    s.post enc P f apart fresh handsOn false W args v W' := by
  refine ⟨ds, gs, before, [], pa, pv, hW, hres _ _ _, hargs, hvars, World.keptBut_mono (fun p hp => ⟨hp, ?_⟩) (hb.frame (· ∈ before)), fun h => by cases h⟩
  rw [hps, List.mem_append] at hp
  exact Or.inr hp

/-! ### THE ROW's STEP -/
theorem u16_of {zs : List Int} (h : ∀ n ∈ zs, (Lit.int .u16 n).wf = true) : U16 zs := fun z hz => by
  have := h z hz
  simp only [Lit.wf, IntKind.min, IntKind.max, IntKind.signed, IntKind.bits] at this
  simp at this
  omega

set_option maxRecDepth 100000 in
theorem lifted (os : Os) (started : os.Started) (H : Type) (enc : TypeId × Value → H) :
    ReturnsInHanded {} Try.checked os 3 .any (Rows.tableLowestSpec.pre6 enc Try.prog Try.f3 Rows.tableLowestRow.domain false) (Rows.tableLowestSpec.post enc Try.prog Try.f3 false true false false) := by
  refine returnsInHanded_of_change (C := Try.checked) own started (by kernel_rfl) Try.func3
    (ChangeSpec.witness6 (enc := enc) (C := Try.checked) false ⟨#[], #[.int .u16 0, .slice none 0 0], []⟩ 8 (by kernel_rfl) (by kernel_rfl) (by kernel_rfl) (by kernel_rfl)) ?_
  intro W base args ds gs before hval0 hW hcnd _
  have hval : ∀ (j : Nat) t v, Try.f3.params[j]? = some t → args[j]? = some v → Value.okWide Try.prog W .any base t v := hval0
  have hW' := hW
  obtain ⟨p, q, hA0, hV, rfl, hfz, hnd⟩ := hW
  have hA : DataW.TrodAll enc Try.prog W 0 (fun _ => true) true Try.f3.params.toList args.toList ds p := hA0
  rw [Try.params3] at hA hval
  obtain ⟨v0, v1, d0, d1, p0, p1, rfl, rfl, rfl, h0, h1⟩ := trodAll_two hA
  obtain ⟨rfl, rfl⟩ := trodVars_none hV
  obtain ⟨n, rfl, rfl, rfl, wn⟩ := open_int Try.underlying22 (hval 0 22 v0 rfl rfl) h0
  have hok1 := hval 1 23 v1 rfl rfl
  obtain ⟨a0, len, cap, rfl⟩ := okWide_slice Try.underlying23 hok1
  have hn : 0 ≤ n ∧ n < 65536 := by
    have : U16 [n] := u16_of fun z hz => by
      rw [List.mem_singleton.1 hz]; exact wn
    exact this n (by simp)
  have h1k := h1
  obtain ⟨fuel, hf⟩ := h1
  clear hA0 hval0
  simp only [List.append_nil, List.nil_append] at hW'
  have hlt : ∀ x ∈ p1, x.block < W.heap.size := fun x hx => by simpa using hW'.lt x hx
  have done : ∀ W', Below W.heap.size W W' → ∃ v, Ending.returned (Value.bool true) = .returned v ∧ Rows.tableLowestSpec.post enc Try.prog Try.f3 false true false false W #[.int .u16 n, .slice a0 len cap] v W' := fun W' hb =>
    ⟨.bool true, rfl, post_of_old (pa := p1) (pv := []) hW' (fun _ _ _ => (trodAll_cons_mk (shut_bool Try.underlying4 _) trodAll_mk0))
      (trodAll_mk2 (p := []) (shut_int Try.underlying22 wn) (Below.trod laidOut (by kernel_rfl) (of_decide_eq_true (by kernel_rfl)) h1k hb hlt)) rfl (by simp) hb⟩
  rcases open_ints Try.underlying23 Try.underlying22 cells22 hf with ⟨hcs, hx⟩ | ⟨a, len', cap', zs, hcs, _, hl, hm, hz, hx, hcell, hwz⟩
  · simp [Value.cells] at hcs
    obtain ⟨rfl, rfl, rfl⟩ := hcs
    refine (walk_nil n hn W).mono fun e W' ⟨he, hb⟩ => ?_
    subst he
    exact done W' hb
  · simp [Value.cells] at hcs
    obtain ⟨rfl, rfl, rfl⟩ := hcs
    simp only [if_true] at hz
    have hok : len ≤ cap ∧ (cap : Int) ≤ IntKind.i64.max ∧ W.has Try.prog .any base a 22 cap := by
      simpa only [Value.okWide, Cell.okWide, Cell.ok, Try.underlying23] using hok1
    obtain ⟨_, _, _, hspot, row, cells, hshape, _⟩ := hok
    obtain ⟨b, off, spot⟩ := a
    simp only at hspot
    subst hspot
    have hblk : ∃ c e fr, W.heap[b]? = some (.cells c e fr) := by
      unfold World.shape? at hshape
      split at hshape
      · next c e fr hh => exact ⟨c, e, fr, hh⟩
      · cases hshape
    refine (walk_slice n hn W b off len cap zs (u16_of hwz) (by omega) hl hblk fun i hi => ?_).mono fun e W' ⟨he, hb⟩ => ?_
    · have := hcell i hi
      rwa [Addr.add_mk] at this
    · subst he
      exact done W' hb

theorem over : Rows.tableLowestRow.holds Try.pinned (OpenSpec.ofChange Rows.tableLowestSpec) :=
  OpenClaim.holds_of_wide 3 Try.f3 rfl rfl rfl rfl rfl rfl rfl ⟨rfl, rfl, rfl, rfl, rfl⟩ rfl rfl rfl rfl rfl (by kernel_rfl) Try.func3 (by kernel_rfl)
    (of_decide_eq_true (by kernel_rfl)) (by unfold Func.isWrapper; first | (rw [if_pos (by decide +kernel)]; kernel_rfl) | (rw [if_neg (by decide +kernel)]; exact ⟨rfl, rfl⟩))
    (fun os started H enc _ => lifted os started H enc)

/-- ████ THE STATEMENT ████ -/
theorem lowest_proved : Rows.TableLowestSaid :=
  over
#print axioms lowest_proved
end Go.Proofs.Ytafolioeipfdpaa
