/- From the model's arguments to the ideal machine's. -/
import Derived.Test.YtjhgomacanffkaaGGrows
import Derived.WalkKit
import Derived.ProofKit
import Derived.OpenShut
import Derived.Deep.Slices
namespace Go.Proofs.Ytjhgomacanffkaa
open Go Sx Go.ChangeShapes Go.WideShapes Go.ChangeAt Go.RowKit

theorem own : ownKnob Try.prog.godebug = none := by kernel_rfl
theorem laidOut : laidOutB Try.prog = true := by kernel_rfl
theorem cells5 : Try.prog.cellsOf 5 = 1 := by kernel_rfl
theorem cells49 : Try.prog.cellsOf 49 = 2 := by kernel_rfl

theorem rel_hL (P : Program) {o0 o1 : Option (Bx × Bool)} {E : Env} {w : World} (h0 : ∀ x, o0 = some x → ORel P E 2 0 x.1 w.heap[E.ρ 0]? ∧ E.ρ 0 < w.heap.size ∧ x.2 = false)
    (h1 : ∀ x, o1 = some x → ORel P E 2 1 x.1 w.heap[E.ρ 1]? ∧ E.ρ 1 < w.heap.size ∧ x.2 = false) : Rel P w E (hL o0 o1) w := by
  have fl : ∀ i x, (hL o0 o1).get i = some x → x.2 = false := fun i x hi => by
    rcases hL_get hi with ⟨rfl, e⟩ | ⟨rfl, e⟩
    · exact (h0 _ e).2.2
    · exact (h1 _ e).2.2
  refine ⟨Below.refl _ _, fun i x hi => hL_dom o0 o1 i x hi, fun i o wr hi => ?_, fun i o hi => ?_, fun i j x y hi hj hw _ => ?_⟩
  · rcases hL_get hi with ⟨rfl, e⟩ | ⟨rfl, e⟩
    · exact ⟨(h0 _ e).1, (h0 _ e).2.1⟩
    · exact ⟨(h1 _ e).1, (h1 _ e).2.1⟩
  · have := fl _ _ hi; cases this
  · rcases hw with hw | hw
    · rw [fl _ _ hi] at hw; cases hw
    · rw [fl _ _ hj] at hw; cases hw

def pcs (ps : List (Int × Int)) : List IV := ps.flatMap fun r => [.int .u8 r.1, .int .u8 r.2]
theorem pcs_get : ∀ (ps : List (Int × Int)) (i : Nat) (r : Int × Int), ps[i]? = some r → (pcs ps)[i * 2]? = some (.int .u8 r.1) ∧ (pcs ps)[i * 2 + 1]? = some (.int .u8 r.2)
  | [], i, r, h => by simp at h
  | a :: ps, 0, r, h => by
    simp at h; subst h
    exact ⟨rfl, rfl⟩
  | a :: ps, i + 1, r, h => by
    have := pcs_get ps i r (by simpa using h)
    simp only [pcs, List.flatMap_cons, List.cons_append, List.nil_append] at this ⊢
    rw [show (i + 1) * 2 = i * 2 + 1 + 1 by omega]
    exact this
theorem pcs_cells : ∀ (ps : List (Int × Int)) (j : Nat) (v : IV), (pcs ps)[j]? = some v → ∃ i r, ps[i]? = some r ∧ ((j = i * 2 ∧ v = .int .u8 r.1) ∨ (j = i * 2 + 1 ∧ v = .int .u8 r.2))
  | [], j, v, h => by simp [pcs] at h
  | a :: ps, 0, v, h => by
    simp [pcs] at h; subst h
    exact ⟨0, a, rfl, .inl ⟨rfl, rfl⟩⟩
  | a :: ps, 1, v, h => by
    simp [pcs] at h; subst h
    exact ⟨0, a, rfl, .inr ⟨rfl, rfl⟩⟩
  | a :: ps, j + 2, v, h => by
    obtain ⟨i, r, h1, h2⟩ := pcs_cells ps j v (by simpa [pcs] using h)
    exact ⟨i + 1, r, by simpa using h1, h2.imp (fun ⟨e, f⟩ => ⟨by omega, f⟩) fun ⟨e, f⟩ => ⟨by omega, f⟩⟩
theorem pcs_flat : ∀ ps : List (Int × Int), flatL (pcs ps) = true
  | [] => rfl
  | a :: l => by
    have := pcs_flat l
    simp only [pcs] at this
    simp only [pcs, List.flatMap_cons, List.cons_append, List.nil_append, flatL, IV.flat, Bool.true_and, this]

def bcs (zs : List Nat) : List IV := zs.map fun (z : Nat) => .int .u8 (z : Int)
theorem bcs_flat : ∀ zs : List Nat, flatL (bcs zs) = true
  | [] => rfl
  | a :: l => by
    have := bcs_flat l
    simp only [bcs] at this
    simp only [bcs, List.map_cons, flatL, IV.flat, Bool.true_and, this]

/-- A list of pairs of bytes, in the model. -/
def PairsArg (w : World) (v : Value) (ps : List (Int × Int)) : Prop :=
  (v = .slice none 0 0 ∧ ps = []) ∨ ∃ b off cap, v = .slice (some ⟨b, off, none⟩) ps.length cap ∧ ps.length ≤ cap ∧ (∃ c e fr, w.heap[b]? = some (.cells c e fr)) ∧
    ∀ i r, ps[i]? = some r → w.cell? ⟨b, off + i * 2, none⟩ = some (.int .u8 r.1) ∧ w.cell? ⟨b, off + i * 2 + 1, none⟩ = some (.int .u8 r.2)
/-- A list of bytes, in the model. -/
def BytesArg (w : World) (v : Value) (zs : List Nat) : Prop :=
  (v = .slice none 0 0 ∧ zs = []) ∨ ∃ b off cap, v = .slice (some ⟨b, off, none⟩) zs.length cap ∧ zs.length ≤ cap ∧ (∃ c e fr, w.heap[b]? = some (.cells c e fr)) ∧
    ∀ i z, zs[i]? = some z → w.cell? ⟨b, off + i, none⟩ = some (.int .u8 (z : Nat))

theorem t41d : (tab.get 41).map Ty.d = some (.slice 5) := by kernel_rfl
theorem t5s : (tab.get 5).map Ty.size = some 1 := by kernel_rfl
theorem len_sl {t e : TypeId} (ht : (tab.get t).map Ty.d = some (.slice e)) (b o n : Nat) (c : Cap) (h : H) : builtinI tab .len [t] [.slice b o n c] h = some (.int .i64 n, h) := by
  show (lenI tab t (.slice b o n c) h).map _ = _
  unfold lenI
  cases h1 : tab.get t with
  | none => rw [h1] at ht; cases ht
  | some ty =>
    rw [h1] at ht
    simp only [Option.map_some, Option.some.injEq] at ht
    simp only [ht]; rfl
theorem len_nil {t e : TypeId} (ht : (tab.get t).map Ty.d = some (.slice e)) (h : H) : builtinI tab .len [t] [.nilslice] h = some (.int .i64 (0 : Nat), h) := by
  show (lenI tab t .nilslice h).map _ = _
  unfold lenI
  cases h1 : tab.get t with
  | none => rw [h1] at ht; cases ht
  | some ty =>
    rw [h1] at ht
    simp only [Option.map_some, Option.some.injEq] at ht
    simp only [ht]; rfl

theorem cell_of {w : World} {b o : Nat} {v : Value} {c : Array Value} {e : TypeId} {fr : Nat × Nat} (hb : w.heap[b]? = some (.cells c e fr)) (h : w.cell? ⟨b, o, none⟩ = some v) : c[o]? = some v := by
  simpa [World.cell?, hb] using h

/-- A pairs' list at a name. -/
theorem pairs_at {w : World} {v : Value} {ps : List (Int × Int)} (h : PairsArg w v ps) (q : Nat) : ∃ (av : IV) (off : Nat) (x : Bx × Bool) (o : Option (Bx × Bool)) (b : Nat), (∀ E : Env, E.ρ q = b → av.den E = v) ∧ av.under (q + 1) ∧ (ps.length = 0 ∨ o = some x) ∧
    (∀ h', builtinI tab .len [33] [av] h' = some (.int .i64 (ps.length : Nat), h')) ∧ (∀ i, i < ps.length → indexAddrI tab 33 av (.int .i64 i) = some (.ptr q (off + i * 2))) ∧
    (∀ i r, ps[i]? = some r → ldX x false 1 (off + i * 2) = some (.int .u8 r.1)) ∧ (∀ i r, ps[i]? = some r → ldX x false 1 (off + i * 2 + 1) = some (.int .u8 r.2)) ∧
    (∀ (P : Program) (E : Env) (n i : Nat), E.ρ q = b → ∀ y, o = some y → ORel P E n i y.1 w.heap[E.ρ q]? ∧ E.ρ q < w.heap.size ∧ y.2 = false) := by
  rcases h with ⟨rfl, rfl⟩ | ⟨b, off, cap, rfl, hl, ⟨c, e, fr, hb⟩, hcell⟩
  · exact ⟨.nilslice, 0, (.ro 0 [], false), none, 0, fun E _ => rfl, by simp [IV.under], .inl rfl, fun h' => len_nil t33d h', fun i hi => by simp at hi, fun i r hr => by simp at hr, fun i r hr => by simp at hr, fun P E n i _ y hy => by cases hy⟩
  · have hro : ∀ j v, (pcs ps)[j]? = some v → roC false 1 off (pcs ps) (off + j) = some v := fun j v hj => by
      unfold roC
      rw [Nat.ble_eq_true_of_le (by omega), show off + j - off = j by omega]
      exact hj
    refine ⟨.slice q off ps.length (.hard cap), off, (.ro off (pcs ps), false), some (.ro off (pcs ps), false), b, fun E hE => by simp [IV.den, Cap.den, hE], by simp [IV.under], .inr rfl, fun h' => len_sl t33d _ _ _ _ h', fun i hi => ix_sl t33d t49s hi,
      fun i r hr => hro _ _ (pcs_get ps i r hr).1, fun i r hr => by rw [Nat.add_assoc]; exact hro _ _ (pcs_get ps i r hr).2, ?_⟩
    rintro P E n i hE y hy
    simp only [Option.some.injEq] at hy
    subst hy
    rw [hE]
    refine ⟨⟨⟨c, e, fr, hb, fun j v hj => ?_⟩, underL_of_flat _ _ (pcs_flat ps)⟩, (Array.getElem?_eq_some_iff.1 hb).1, rfl⟩
    obtain ⟨i', r, hr, h2⟩ := pcs_cells ps j v hj
    obtain ⟨a1, a2⟩ := hcell i' r hr
    rcases h2 with ⟨rfl, rfl⟩ | ⟨rfl, rfl⟩
    · exact cell_of hb a1
    · rw [← Nat.add_assoc]; exact cell_of hb a2
theorem bytes_at {w : World} {v : Value} {zs : List Nat} (h : BytesArg w v zs) (q : Nat) : ∃ (bv : IV) (off : Nat) (x : Bx × Bool) (o : Option (Bx × Bool)) (b : Nat), (∀ E : Env, E.ρ q = b → bv.den E = v) ∧ bv.under (q + 1) ∧ (zs.length = 0 ∨ o = some x) ∧
    (∀ h', builtinI tab .len [41] [bv] h' = some (.int .i64 (zs.length : Nat), h')) ∧ (∀ i, i < zs.length → indexAddrI tab 41 bv (.int .i64 i) = some (.ptr q (off + i))) ∧
    (∀ i z, zs[i]? = some z → ldX x false 1 (off + i) = some (.int .u8 (z : Nat))) ∧
    (∀ (P : Program) (E : Env) (n i : Nat), E.ρ q = b → ∀ y, o = some y → ORel P E n i y.1 w.heap[E.ρ q]? ∧ E.ρ q < w.heap.size ∧ y.2 = false) := by
  rcases h with ⟨rfl, rfl⟩ | ⟨b, off, cap, rfl, hl, ⟨c, e, fr, hb⟩, hcell⟩
  · exact ⟨.nilslice, 0, (.ro 0 [], false), none, 0, fun E _ => rfl, by simp [IV.under], .inl rfl, fun h' => len_nil t41d h', fun i hi => by simp at hi, fun i r hr => by simp at hr, fun P E n i _ y hy => by cases hy⟩
  · refine ⟨.slice q off zs.length (.hard cap), off, (.ro off (bcs zs), false), some (.ro off (bcs zs), false), b, fun E hE => by simp [IV.den, Cap.den, hE], by simp [IV.under], .inr rfl, fun h' => len_sl t41d _ _ _ _ h', fun i hi => by rw [ix_sl t41d t5s hi]; simp,
      fun i z hz => ?_, ?_⟩
    · show roC false 1 off (bcs zs) (off + i) = _
      unfold roC
      rw [Nat.ble_eq_true_of_le (by omega), show off + i - off = i by omega]
      show (bcs zs)[i]? = _
      simp [bcs, hz]
    rintro P E n i hE y hy
    simp only [Option.some.injEq] at hy
    subst hy
    rw [hE]
    refine ⟨⟨⟨c, e, fr, hb, fun j v hj => ?_⟩, underL_of_flat _ _ (bcs_flat zs)⟩, (Array.getElem?_eq_some_iff.1 hb).1, rfl⟩
    unfold bcs at hj
    rw [List.getElem?_map] at hj
    cases hz : zs[j]? with
    | none => rw [hz] at hj; cases hj
    | some z =>
      rw [hz] at hj
      simp only [Option.map_some, Option.some.injEq] at hj
      subst hj
      exact cell_of hb (hcell j z hz)

theorem walk5 (w : World) {v0 v1 : Value} {ps : List (Int × Int)} {zs : List Nat} (h0 : PairsArg w v0 ps) (h1 : BytesArg w v1 zs) (hm : ∀ r ∈ ps, (0 ≤ r.1 ∧ r.1 < 256) ∧ 0 ≤ r.2 ∧ r.2 < 256) (hz : ∀ z ∈ zs, z < 256) :
    Calls Try.prog 5 #[v0, v1] w fun e w' => e = .returned (.bool true) ∧ Below w.heap.size w w' := by
  obtain ⟨av, off0, x0, o0, b0, a1, a2, a3, a4, a5, a6, a7, a8⟩ := pairs_at h0 0
  obtain ⟨bv, off1, x1, o1, b1, c1, c2, c3, c4, c5, c6, c7⟩ := bytes_at h1 1
  let E : Env := ⟨fun i => if i = 0 then b0 else b1, id⟩
  have e0 : E.ρ 0 = b0 := rfl
  have e1 : E.ρ 1 = b1 := rfl
  have hrel : Rel Try.prog w E (hL o0 o1) w := rel_hL _ (fun x hx => a8 _ E 2 0 e0 x hx) (fun x hx => c7 _ E 2 1 e1 x hx)
  have hp : Pairs (hL o0 o1) av 0 off0 x0 ps := ⟨a4, a5, a6, a7, a3.imp id fun e => by rw [e]; rfl, hm⟩
  have hb : Bytes o1 bv off1 x1 zs := ⟨c4, c5, c6, c3, hz⟩
  have := law5_sp hp hb w E w hrel (by
    simp only [underL, and_true]
    exact ⟨IV.under_mono (show 1 ≤ 2 by decide) _ a2, IV.under_mono (Nat.le_refl _) _ c2⟩)
  rw [show denL E [av, bv] = [v0, v1] by simp [denL, a1 E e0, c1 E e1]] at this
  refine (callsIn_wide.1 this).mono ?_
  rintro e w' ⟨v, h2, E', rfl, hr, _, _, rfl⟩
  exact ⟨rfl, hr.below⟩

/-! ### Opening what was handed in -/
section
variable {H : Type} {enc : TypeId × Value → H} {w : World} {base : Nat} {held : Bool}

theorem u8_wf {n : Int} (h : (Lit.int .u8 n).wf = true) : 0 ≤ n ∧ n < 256 := by
  simp only [Lit.wf, IntKind.min, IntKind.max, IntKind.signed, IntKind.bits] at h
  simp at h
  omega

theorem open_pairs {fuel : Nat} {cs : List Value} {x : DataW H × List MemPlace} (h : DataW.trod enc Try.prog w base (fun _ => true) held fuel 33 cs = some x) :
    cs = [.slice none 0 0] ∨ ∃ (a : Addr) (len cap : Nat) (f : Nat → Int × Int), cs = [.slice (some a) len cap] ∧ len ≤ cap ∧
      ∀ i, i < len → w.cell? (a.add (i * 2)) = some (.int .u8 (f i).1) ∧ w.cell? (a.add (i * 2 + 1)) = some (.int .u8 (f i).2) ∧ (0 ≤ (f i).1 ∧ (f i).1 < 256) ∧ 0 ≤ (f i).2 ∧ (f i).2 < 256 := by
  rcases Go.Deep.open_slice Try.underlying33 h with ⟨h0, _⟩ | ⟨a, len, cap, m, n, D, Pl, rfl, _, hl, _, hm, _, hx⟩
  · exact .inl h0
  refine .inr ?_
  simp only [if_true] at hm
  have each : ∀ i, i < len → ∃ q : Int × Int, w.cell? (a.add (i * 2)) = some (.int .u8 q.1) ∧ w.cell? (a.add (i * 2 + 1)) = some (.int .u8 q.2) ∧ (0 ≤ q.1 ∧ q.1 < 256) ∧ 0 ≤ q.2 ∧ q.2 < 256 := by
    intro i hi
    obtain ⟨cs', h1, h2⟩ := hx i (by omega)
    rw [cells49] at h1
    obtain ⟨_, hlen, hcell⟩ := World.cells?_some h1
    obtain ⟨xs, k, _, _, _, hxl, hf⟩ := DataW.trod_array Try.underlying49 h2
    match cs', hlen with
    | [v0, v1], _ =>
      have g0 := hf 0 (by decide)
      have g1 := hf 1 (by decide)
      rw [cells5] at g0 g1
      rw [List.getElem?_eq_getElem (by omega)] at g0 g1
      obtain ⟨n0, r0, _, w0⟩ := DataW.trod_int Try.underlying5 g0
      obtain ⟨n1, r1, _, w1⟩ := DataW.trod_int Try.underlying5 g1
      have e0 := hcell 0 (by decide)
      have e1 := hcell 1 (by decide)
      rw [Go.Deep.add_add] at e0 e1
      simp at r0 r1
      subst r0
      subst r1
      exact ⟨(n0, n1), by simpa using e0, by simpa using e1, u8_wf w0, u8_wf w1⟩
  obtain ⟨f, hf⟩ := Go.Deep.choose_lt each
  exact ⟨a, len, cap, f, rfl, hl, hf⟩
end
end Go.Proofs.Ytjhgomacanffkaa
namespace Go.Proofs.Ytjhgomacanffkaa
open Go Sx Go.ChangeShapes Go.WideShapes Go.ChangeAt Go.RowKit
set_option linter.unusedVariables false

/-- Behind a law that makes new blocks alone. -/
theorem post_of_old {H : Type} {enc : TypeId × Value → H} {P : Program} {f : Func} {s : ChangeSpec} {apart fresh handsOn : Bool} {W W' : World} {args : Array Value} {v : Value} {ds gs : List (DataW H)} {before pa pv : List MemPlace}
    (hW : DataW.Whole enc P f.params.toList s.vars apart W args.toList ds gs before)
    (hres : ∀ (b : Nat) (sp : Nat → Bool) (hd : Bool), DataW.TrodAll enc P W' b sp hd f.resultTypes.toList (v.resultList f.resultTypes.size) (s.fn H (ds ++ gs)).results [])
    (hargs : DataW.TrodAll enc P W' 0 (fun b => decide (b < W.heap.size)) true f.params.toList args.toList (s.fn H (ds ++ gs)).args pa)
    (hvars : DataW.TrodVars enc P W' (fun b => decide (b < W.heap.size)) s.vars (s.fn H (ds ++ gs)).vars pv)
    (hps : before = pa ++ pv) (hb : Below W.heap.size W W') :
    s.post enc P f apart fresh handsOn false W args v W' := by
  refine ⟨ds, gs, before, [], pa, pv, hW, hres _ _ _, hargs, hvars, World.keptBut_mono (fun p hp => ⟨hp, ?_⟩) (hb.frame (· ∈ before)), fun h => by cases h⟩
  rw [hps, List.mem_append] at hp
  exact Or.inr hp

theorem has_block {W : World} {r : Reach} {base : Nat} {t e : TypeId} {a : Addr} {len cap : Nat} (ht : Try.prog.underlying t = some (.slice e)) (hok : Value.okWide Try.prog W r base t (.slice (some a) len cap)) :
    ∃ b off, a = ⟨b, off, none⟩ ∧ ∃ c e fr, W.heap[b]? = some (.cells c e fr) := by
  have hok : len ≤ cap ∧ (cap : Int) ≤ IntKind.i64.max ∧ W.has Try.prog r base a e cap := by
    simpa only [Value.okWide, Cell.okWide, Cell.ok, ht] using hok
  obtain ⟨_, _, _, hspot, row, cells, hshape, _⟩ := hok
  obtain ⟨b, off, spot⟩ := a
  simp only at hspot
  subst hspot
  refine ⟨b, off, rfl, ?_⟩
  unfold World.shape? at hshape
  split at hshape
  · next c e fr hh => exact ⟨c, e, fr, hh⟩
  · cases hshape

section
variable {H : Type} {enc : TypeId × Value → H} {w : World} {base0 base : Nat} {held : Bool} {r : Reach}
theorem pairs_of {v : Value} {d : DataW H} {p : List MemPlace} (hval : Value.okWide Try.prog w r base0 33 v) (h : DataW.Trod enc Try.prog w base (fun _ => true) held 33 v d p) :
    ∃ ps, PairsArg w v ps ∧ ∀ r ∈ ps, (0 ≤ r.1 ∧ r.1 < 256) ∧ 0 ≤ r.2 ∧ r.2 < 256 := by
  obtain ⟨a0, len, cap, rfl⟩ := okWide_slice Try.underlying33 hval
  obtain ⟨fuel, hf⟩ := h
  rcases open_pairs hf with hcs | ⟨a, len', cap', f, hcs, hl, hcell⟩
  · simp [Value.cells] at hcs
    obtain ⟨rfl, rfl, rfl⟩ := hcs
    exact ⟨[], .inl ⟨rfl, rfl⟩, by simp⟩
  · simp [Value.cells] at hcs
    obtain ⟨rfl, rfl, rfl⟩ := hcs
    obtain ⟨b, off, rfl, hblk⟩ := has_block Try.underlying33 hval
    have hlen : ((List.range len).map f).length = len := by simp
    refine ⟨(List.range len).map f, .inr ⟨b, off, cap, by rw [hlen], by rw [hlen]; exact hl, hblk, fun i q hq => ?_⟩, fun q hq => ?_⟩
    · have hi : i < len := by have := (List.getElem?_eq_some_iff.1 hq).1; simpa using this
      have hqe : q = f i := by simpa [hi] using hq.symm
      subst hqe
      have := hcell i hi
      rw [Addr.add_mk, Addr.add_mk] at this
      exact ⟨this.1, by rw [Nat.add_assoc]; exact this.2.1⟩
    · obtain ⟨i, hi, rfl⟩ := List.mem_map.1 hq
      exact (hcell i (List.mem_range.1 hi)).2.2
theorem bytes_of {v : Value} {d : DataW H} {p : List MemPlace} (hval : Value.okWide Try.prog w r base0 41 v) (h : DataW.Trod enc Try.prog w base (fun _ => true) held 41 v d p) :
    ∃ zs, BytesArg w v zs ∧ ∀ z ∈ zs, z < 256 := by
  obtain ⟨a0, len, cap, rfl⟩ := okWide_slice Try.underlying41 hval
  obtain ⟨fuel, hf⟩ := h
  rcases open_ints Try.underlying41 Try.underlying5 cells5 hf with ⟨hcs, _⟩ | ⟨a, len', cap', zs, hcs, _, hl, _, hz, _, hcell, hwz⟩
  · simp [Value.cells] at hcs
    obtain ⟨rfl, rfl, rfl⟩ := hcs
    exact ⟨[], .inl ⟨rfl, rfl⟩, by simp⟩
  · simp [Value.cells] at hcs
    obtain ⟨rfl, rfl, rfl⟩ := hcs
    simp only [if_true] at hz
    obtain ⟨b, off, rfl, hblk⟩ := has_block Try.underlying41 hval
    have hlen : ((zs.take len).map Int.toNat).length = len := by simp; omega
    refine ⟨(zs.take len).map Int.toNat, .inr ⟨b, off, cap, by rw [hlen], by rw [hlen]; exact hl, hblk, fun i q hq => ?_⟩, fun q hq => ?_⟩
    · have hi : i < len := by have := (List.getElem?_eq_some_iff.1 hq).1; rwa [hlen] at this
      rw [List.getElem?_map, List.getElem?_take_of_lt hi] at hq
      cases hzi : zs[i]? with
      | none => rw [hzi] at hq; cases hq
      | some n =>
        rw [hzi] at hq
        simp only [Option.map_some, Option.some.injEq] at hq
        subst hq
        have hw := u8_wf (hwz n (List.mem_of_getElem? hzi))
        have := hcell i (by omega)
        rw [Addr.add_mk, List.getD_eq_getElem?_getD, hzi] at this
        rw [this]
        simp only [Option.getD_some]
        congr 2
        omega
    · obtain ⟨n, hn, rfl⟩ := List.mem_map.1 hq
      have hw := u8_wf (hwz n (List.mem_of_mem_take hn))
      omega
end
end Go.Proofs.Ytjhgomacanffkaa
