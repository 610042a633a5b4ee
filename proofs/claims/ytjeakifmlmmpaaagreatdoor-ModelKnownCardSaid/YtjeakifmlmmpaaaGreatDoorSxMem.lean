/- The ideal machine's memory: loads, stores, new blocks, against the model's. -/
import Derived.Test.YtjeakifmlmmpaaaGreatDoorSxBase
import Derived.Laws.Cells
import Derived.Laws.Entries
namespace Sx
open Go Go.RowKit
set_option linter.unusedSimpArgs false

/-! ### The types' table -/
structure Ty where
  d : TypeDesc
  size : Nat
  bytes : Nat
  zv : IV
  eqok : Bool

def aggD : TypeDesc → Bool
  | .struct _ | .array _ _ => true
  | _ => false

mutual
def IV.flat : IV → Bool
  | .bool _ | .int _ _ | .str _ | .nilptr | .nilslice | .nilmap | .nilfunc | .nilif => true
  | .iface _ v => v.flat
  | .agg cs => flatL cs
  | .tup vs => flatL vs
  | _ => false
def flatL : List IV → Bool
  | [] => true
  | v :: vs => v.flat && flatL vs
end

mutual
theorem IV.under_of_flat (n : Nat) : ∀ (v : IV), v.flat = true → v.under n
  | .bool _, _ => by simp [IV.under]
  | .int _ _, _ => by simp [IV.under]
  | .str _, _ => by simp [IV.under]
  | .nilptr, _ => by simp [IV.under]
  | .ptr _ _, h => by simp [IV.flat] at h
  | .nilslice, _ => by simp [IV.under]
  | .slice _ _ _ _, h => by simp [IV.flat] at h
  | .tail _ _ _ _, h => by simp [IV.flat] at h
  | .nilmap, _ => by simp [IV.under]
  | .map _, h => by simp [IV.flat] at h
  | .func _ _ _, h => by simp [IV.flat] at h
  | .nilfunc, _ => by simp [IV.under]
  | .iface _ v, h => by simp only [IV.flat] at h; simp only [IV.under]; exact IV.under_of_flat n v h
  | .nilif, _ => by simp [IV.under]
  | .agg cs, h => by simp only [IV.flat] at h; simp only [IV.under]; exact underL_of_flat n cs h
  | .tup vs, h => by simp only [IV.flat] at h; simp only [IV.under]; exact underL_of_flat n vs h
theorem underL_of_flat (n : Nat) : ∀ (l : List IV), flatL l = true → underL n l
  | [], _ => by simp [underL]
  | v :: vs, h => by simp only [flatL, Bool.and_eq_true] at h; simp only [underL]; exact ⟨IV.under_of_flat n v h.1, underL_of_flat n vs h.2⟩
end

/-- The table tells the program's types. -/
structure TyOK (P : Program) (t : TypeId) (ty : Ty) : Prop where
  und : P.underlying t = some ty.d
  info : ∃ i, P.info? t = some i ∧ i.size = ty.size ∧ i.bytes = ty.bytes ∧ ∀ E, i.zero = some (ty.zv.den E)
  flat : ty.zv.flat = true
  eq : ty.eqok = true → P.stoodInHeld t = false ∧ P.eqGuardType P.depth t = false

def TabOK (P : Program) (T : Tr Ty) : Prop := ∀ t ty, T.get t = some ty → TyOK P t ty

section
variable {P : Program} {t : TypeId} {ty : Ty}
theorem TyOK.run_und (h : TyOK P t ty) (w : World) : (underlying t).run P w = .ok ty.d w := run_underlying h.und w
theorem TyOK.run_size (h : TyOK P t ty) (w : World) : (Go.sizeOf t).run P w = .ok ty.size w := by
  obtain ⟨i, h1, h2, _⟩ := h.info
  simp [Go.sizeOf, typeInfo, h1, h2]
theorem TyOK.run_info (h : TyOK P t ty) (w : World) : ∃ i, (typeInfo t).run P w = .ok i w ∧ i.size = ty.size ∧ i.bytes = ty.bytes ∧ ∀ E, i.zero = some (ty.zv.den E) := by
  obtain ⟨i, h1, h2⟩ := h.info
  exact ⟨i, by simp [typeInfo, h1], h2⟩
theorem TyOK.run_zero (h : TyOK P t ty) (E : Env) (w : World) : (zeroValue t).run P w = .ok (ty.zv.den E) w := by
  obtain ⟨i, h1, h2, h3, h4⟩ := h.info
  simp [zeroValue, typeInfo, h1, h4 E]
theorem TyOK.run_agg (h : TyOK P t ty) (w : World) : (isAgg t).run P w = .ok (aggD ty.d) w := by
  unfold isAgg
  simp only [Sem.run_bind, h.run_und, Result.andThen_ok]
  cases ty.d <;> simp [aggD]
theorem TyOK.cellsOf (h : TyOK P t ty) : P.cellsOf t = ty.size := by
  obtain ⟨i, h1, h2, _⟩ := h.info
  simp [Program.cellsOf, h1, h2]
end

/-! ### Worlds -/
def World.putObj (w : World) (g : Nat) (o : Obj) : World := { w with heap := w.heap.setIfInBounds g o }

theorem putObj_get (w : World) (g i : Nat) (o : Obj) (hg : g < w.heap.size) : (World.putObj w g o).heap[i]? = if g = i then some o else w.heap[i]? := by
  simp only [World.putObj, Array.getElem?_setIfInBounds]
  by_cases h : g = i
  · subst h; simp [hg]
  · simp [h]

theorem putObj_below {w0 w : World} {g : Nat} {o : Obj} (hb : Below w0.heap.size w0 w) (hg : w0.heap.size ≤ g) : Below w0.heap.size w0 (World.putObj w g o) :=
  hb.trans ⟨rfl, rfl, rfl, by simp [World.putObj], fun k hk => by
    simp only [World.putObj, Array.getElem?_setIfInBounds]
    rw [if_neg (by omega)]⟩

section
variable {P : Program} {w0 : World} {E : Env} {h : H} {w : World}

theorem Rel.put (hr : Rel P w0 E h w) {b : Nat} {o o' : Bx} {ob : Obj} (hg : h.get b = some (o, true)) (ho : ORel P E h.next b o' (some ob)) :
    Rel P w0 E (h.put b o') (World.putObj w (E.ρ b) ob) := by
  have hlt := (hr.obj b o true hg).2
  refine ⟨putObj_below hr.below (hr.wr b o hg), ?_, ?_, ?_, ?_⟩
  · intro i x hi
    rw [H.get_put] at hi
    by_cases e : b = i
    · subst e; exact hr.dom _ _ hg
    · rw [if_neg e] at hi; exact hr.dom i x hi
  · intro i o2 wr hi
    rw [H.get_put] at hi
    rw [putObj_get _ _ _ _ hlt]
    by_cases e : b = i
    · subst e
      rw [if_pos rfl] at hi
      cases hi
      rw [if_pos rfl]
      exact ⟨ho, by simp only [World.putObj, Array.size_setIfInBounds]; exact hlt⟩
    · rw [if_neg e] at hi
      have hne : E.ρ b ≠ E.ρ i := fun he => e (hr.inj b i _ _ hg hi (.inl rfl) he)
      rw [if_neg hne]
      exact ⟨(hr.obj i o2 wr hi).1, by simp only [World.putObj, Array.size_setIfInBounds]; exact (hr.obj i o2 wr hi).2⟩
  · intro i o2 hi
    rw [H.get_put] at hi
    by_cases e : b = i
    · subst e; exact hr.wr _ _ hg
    · rw [if_neg e] at hi; exact hr.wr i o2 hi
  · intro i j x y hi hj hw he
    rw [H.get_put] at hi hj
    by_cases e : b = i
    · by_cases e' : b = j
      · omega
      · rw [if_neg e'] at hj
        exact hr.inj i j (o, true) y (e ▸ hg) hj (.inl rfl) he
    · rw [if_neg e] at hi
      by_cases e' : b = j
      · exact hr.inj i j x (o, true) hi (e' ▸ hg) (.inr rfl) he
      · rw [if_neg e'] at hj
        exact hr.inj i j x y hi hj hw he

/-- The environment in which block n is newly at place p. -/
def Env.bind (E : Env) (n p k : Nat) : Env := ⟨fun i => if i = n then p else E.ρ i, fun i => if i = n then k else E.κ i⟩

theorem Env.bind_ext (E : Env) (n p k : Nat) : Ext n E (E.bind n p k) := fun i hi => by
  simp [Env.bind, Nat.ne_of_lt hi]

theorem Rel.new (hr : Rel P w0 E h w) {o : Bx} {ob : Obj} (k : Nat) {w' : World} (hw : w' = { w with heap := w.heap.push ob, drawn := w'.drawn })
    (ho : ORel P (E.bind h.next w.heap.size k) (h.next + 1) h.next o (some ob)) :
    Rel P w0 (E.bind h.next w.heap.size k) (h.new o) w' ∧ Step E h (E.bind h.next w.heap.size k) (h.new o) := by
  have hheap : w'.heap = w.heap.push ob := by rw [hw]
  have hext := Env.bind_ext E h.next w.heap.size k
  have hget : ∀ i, w'.heap[i]? = if i = w.heap.size then some ob else w.heap[i]? := fun i => by rw [hheap, Array.getElem?_push]
  have hn : (E.bind h.next w.heap.size k).ρ h.next = w.heap.size := by simp [Env.bind]
  refine ⟨⟨?_, ?_, ?_, ?_, ?_⟩, ⟨hext, by simp⟩⟩
  · refine hr.below.trans ⟨?_, ?_, ?_, ?_, ?_⟩
    · rw [hw]
    · rw [hw]
    · rw [hw]
    · rw [hheap]; simp
    · intro j hj
      rw [hget, if_neg (by have := hr.below.size; omega)]
  · intro i x hi
    rw [H.get_new] at hi
    by_cases e : h.next = i
    · subst e; simp
    · rw [if_neg e] at hi
      have := hr.dom i x hi
      simp only [H.next_new]; omega
  · intro i o2 wr hi
    rw [H.get_new] at hi
    by_cases e : h.next = i
    · subst e
      rw [if_pos rfl] at hi
      cases hi
      rw [hn, hget, if_pos rfl]
      exact ⟨ho, by rw [hheap]; simp⟩
    · rw [if_neg e] at hi
      have hd := hr.dom i _ hi
      have hs := hr.obj i o2 wr hi
      rw [(hext i hd).1, hget, if_neg (by omega)]
      exact ⟨hs.1.mono hext hd (by simp), by rw [hheap]; simp; omega⟩
  · intro i o2 hi
    rw [H.get_new] at hi
    by_cases e : h.next = i
    · subst e; rw [hn]; exact hr.below.size
    · rw [if_neg e] at hi
      rw [(hext i (hr.dom i _ hi)).1]
      exact hr.wr i o2 hi
  · intro i j x y hi hj hw he
    rw [H.get_new] at hi hj
    by_cases e : h.next = i
    · by_cases e' : h.next = j
      · omega
      · rw [if_neg e'] at hj
        subst e
        rw [hn, (hext j (hr.dom j _ hj)).1] at he
        have := (hr.obj j y.1 y.2 hj).2
        omega
    · rw [if_neg e] at hi
      by_cases e' : h.next = j
      · subst e'
        rw [hn, (hext i (hr.dom i _ hi)).1] at he
        have := (hr.obj i x.1 x.2 hi).2
        omega
      · rw [if_neg e'] at hj
        rw [(hext i (hr.dom i _ hi)).1, (hext j (hr.dom j _ hj)).1] at he
        exact hr.inj i j x y hi hj hw he

theorem Rel.kill (hr : Rel P w0 E h w) (b : Nat) : Rel P w0 E (h.kill b) w := by
  have hsub : ∀ i x, (h.kill b).get i = some x → h.get i = some x := fun i x hi => by
    rw [H.get_kill] at hi
    by_cases e : b = i
    · rw [if_pos e] at hi; cases hi
    · rwa [if_neg e] at hi
  exact ⟨hr.below, fun i x hi => hr.dom i x (hsub i x hi), fun i o wr hi => hr.obj i o wr (hsub _ _ hi), fun i o hi => hr.wr i o (hsub _ _ hi),
    fun i j x y hi hj hw he => hr.inj i j x y (hsub _ _ hi) (hsub _ _ hj) hw he⟩

theorem Rel.drew (hr : Rel P w0 E h w) (d : Nat) : Rel P w0 E h { w with drawn := d } :=
  ⟨hr.below.trans ⟨rfl, rfl, rfl, Nat.le_refl _, fun _ _ => rfl⟩, hr.dom, hr.obj, hr.wr, hr.inj⟩

/-! ### Loads -/
theorem Rel.cells (hr : Rel P w0 E h w) {b : Nat} {cs : List IV} {e : TypeId} {wr : Bool} (hg : h.get b = some (.cells cs e, wr)) :
    ∃ (extra : List Value) (lo hi : Nat), w.heap[E.ρ b]? = some (.cells (denL E cs ++ extra).toArray e (lo, hi)) ∧
      (∀ o, o < (denL E cs ++ extra).length → ¬ (lo ≤ o ∧ o < hi)) ∧ underL h.next cs ∧ E.κ b * P.cellsOf e = (denL E cs ++ extra).length :=
  (hr.obj b _ _ hg).1

theorem Rel.cell (hr : Rel P w0 E h w) {b o : Nat} {cs : List IV} {e : TypeId} {wr : Bool} (hg : h.get b = some (.cells cs e, wr)) {v : IV} (hv : cs[o]? = some v) :
    w.cell? ⟨E.ρ b, o, none⟩ = some (v.den E) := by
  obtain ⟨extra, lo, hi, h1, _⟩ := hr.cells hg
  have hlt : o < cs.length := (List.getElem?_eq_some_iff.1 hv).1
  simp only [World.cell?, h1]
  simp only [Option.isSome_none, Bool.false_eq_true, if_false, List.getElem?_toArray]
  rw [List.getElem?_append_left (by rw [length_denL]; exact hlt), denL_eq, List.getElem?_map, hv]
  rfl

theorem Rel.under_cell (hr : Rel P w0 E h w) {b o : Nat} {cs : List IV} {e : TypeId} {wr : Bool} (hg : h.get b = some (.cells cs e, wr)) {v : IV} (hv : cs[o]? = some v) :
    v.under h.next := by
  obtain ⟨_, _, _, _, _, h3, _⟩ := hr.cells hg
  exact (underL_iff _ _).1 h3 v (List.mem_of_getElem? hv)

theorem Addr.add_mk (b o n : Nat) : Addr.add ⟨b, o, none⟩ n = ⟨b, o + n, none⟩ := by
  unfold Addr.add; split
  · next hn => subst hn; rfl
  · rfl

def loadI (h : H) (agg : Bool) (sz b o : Nat) : Option IV :=
  match h.get b with
  | some (.cells cs _, _) => bif agg then (bif Nat.ble (o + sz) cs.length then some (.agg ((cs.drop o).take sz)) else none) else cs[o]?
  | some (.ro off cs, _) => bif agg then (bif Nat.ble off o && Nat.ble (o - off + sz) cs.length then some (.agg ((cs.drop (o - off)).take sz)) else none) else bif Nat.ble off o then cs[o - off]? else none
  | _ => none

theorem loadCells_run (hr : Rel P w0 E h w) {b o n : Nat} {cs : List IV} {e : TypeId} {wr : Bool} (hg : h.get b = some (.cells cs e, wr)) (hn : o + n ≤ cs.length) :
    (loadCells ⟨E.ρ b, o, none⟩ n).run P w = .ok (denL E ((cs.drop o).take n)).toArray w := by
  have hl : (denL E ((cs.drop o).take n)).length = n := by rw [length_denL]; simp; omega
  have := run_loadCells_list (P := P) w ⟨E.ρ b, o, none⟩ (denL E ((cs.drop o).take n)) (fun j v hj => by
    rw [Addr.add_mk]
    rw [denL_eq, List.getElem?_map] at hj
    cases hx : ((cs.drop o).take n)[j]? with
    | none => rw [hx] at hj; cases hj
    | some x =>
      rw [hx] at hj
      cases hj
      have hlt : j < n := by
        have := (List.getElem?_eq_some_iff.1 hx).1
        simp at this; omega
      rw [List.getElem?_take_of_lt hlt, List.getElem?_drop] at hx
      exact hr.cell hg hx)
  rwa [hl] at this

theorem loadI_run (hr : Rel P w0 E h w) {t : TypeId} {ty : Ty} (ht : TyOK P t ty) {b o : Nat} {v : IV} (hl : loadI h (aggD ty.d) ty.size b o = some v) :
    (loadVar t ⟨E.ρ b, o, none⟩).run P w = .ok (v.den E) w ∧ v.under h.next := by
  unfold loadI at hl
  split at hl
  · next cs e wr hg =>
    unfold loadVar
    simp only [Sem.run_bind, ht.run_agg, Result.andThen_ok]
    cases ha : aggD ty.d with
    | true =>
      rw [ha] at hl
      simp only [cond_true] at hl
      cases hb : Nat.ble (o + ty.size) cs.length with
      | false => rw [hb] at hl; cases hl
      | true =>
        rw [hb] at hl
        simp only [cond_true, Option.some.injEq] at hl
        subst hl
        have hle := Nat.le_of_ble_eq_true hb
        simp only [if_true, Sem.run_bind, ht.run_size, Result.andThen_ok, loadCells_run hr hg hle, Sem.run_pure, IV.den, true_and]
        simp only [IV.under]
        obtain ⟨_, _, _, _, _, h3, _⟩ := hr.cells hg
        exact (underL_iff _ _).2 fun v hv => (underL_iff _ _).1 h3 v (List.mem_of_mem_drop (List.mem_of_mem_take hv))
    | false =>
      rw [ha] at hl
      simp only [cond_false] at hl
      simp only [Bool.false_eq_true, if_false, run_load, hr.cell hg hl, true_and]
      exact hr.under_cell hg hl
  · next off cs wr hg =>
    cases ha : aggD ty.d with
    | true =>
      rw [ha] at hl
      simp only [cond_true] at hl
      cases hb : (Nat.ble off o && Nat.ble (o - off + ty.size) cs.length) with
      | false => rw [hb] at hl; cases hl
      | true =>
        rw [hb] at hl
        simp only [cond_true, Option.some.injEq] at hl
        subst hl
        simp only [Bool.and_eq_true] at hb
        have hle := Nat.le_of_ble_eq_true hb.1
        have hle2 := Nat.le_of_ble_eq_true hb.2
        obtain ⟨⟨c, e, fr, h1, h2⟩, h3⟩ := (hr.obj b _ _ hg).1
        have hlen : (denL E ((cs.drop (o - off)).take ty.size)).length = ty.size := by rw [length_denL]; simp; omega
        have hld := run_loadCells_list (P := P) w ⟨E.ρ b, o, none⟩ (denL E ((cs.drop (o - off)).take ty.size)) (fun j v hj => by
          rw [Addr.add_mk]
          rw [denL_eq, List.getElem?_map] at hj
          cases hx : ((cs.drop (o - off)).take ty.size)[j]? with
          | none => rw [hx] at hj; cases hj
          | some x =>
            rw [hx] at hj
            cases hj
            have hlt : j < ty.size := by
              have := (List.getElem?_eq_some_iff.1 hx).1
              simp at this; omega
            rw [List.getElem?_take_of_lt hlt, List.getElem?_drop] at hx
            have hc := h2 _ _ hx
            rw [show off + (o - off + j) = o + j by omega] at hc
            simp only [World.cell?, h1]
            simpa using hc)
        rw [hlen] at hld
        unfold loadVar
        simp only [Sem.run_bind, ht.run_agg, Result.andThen_ok, ha, if_true, ht.run_size, hld, Sem.run_pure, IV.den, true_and]
        simp only [IV.under]
        exact (underL_iff _ _).2 fun v hv => (underL_iff _ _).1 h3 v (List.mem_of_mem_drop (List.mem_of_mem_take hv))
    | false =>
      rw [ha] at hl
      simp only [cond_false] at hl
      cases hb : Nat.ble off o with
      | false => rw [hb] at hl; cases hl
      | true =>
        rw [hb] at hl
        simp only [cond_true] at hl
        have hle := Nat.le_of_ble_eq_true hb
        obtain ⟨⟨c, e, fr, h1, h2⟩, h3⟩ := (hr.obj b _ _ hg).1
        have hc := h2 _ _ hl
        rw [show off + (o - off) = o by omega] at hc
        have hcell : w.cell? ⟨E.ρ b, o, none⟩ = some (v.den E) := by
          simp only [World.cell?, h1]
          simpa using hc
        unfold loadVar
        simp only [Sem.run_bind, ht.run_agg, Result.andThen_ok, ha, Bool.false_eq_true, if_false, run_load, hcell, true_and]
        exact (underL_iff _ _).1 h3 v (List.mem_of_getElem? hl)
  · cases hl

/-! ### Stores -/
def splice {α : Type} : List α → Nat → List α → List α
  | cs, _, [] => cs
  | cs, o, v :: vs => splice (cs.set o v) (o + 1) vs

theorem splice_length {α : Type} (vs : List α) : ∀ (cs : List α) (o : Nat), (splice cs o vs).length = cs.length := by
  induction vs with
  | nil => intro cs o; rfl
  | cons v vs ih => intro cs o; simp [splice, ih]

theorem splice_map {α β : Type} (f : α → β) (vs : List α) : ∀ (cs : List α) (o : Nat), (splice cs o vs).map f = splice (cs.map f) o (vs.map f) := by
  induction vs with
  | nil => intro cs o; rfl
  | cons v vs ih => intro cs o; simp [splice, ih, List.map_set]

theorem splice_append {α : Type} (vs : List α) : ∀ (cs ex : List α) (o : Nat), o + vs.length ≤ cs.length → splice (cs ++ ex) o vs = splice cs o vs ++ ex := by
  induction vs with
  | nil => intro cs ex o _; rfl
  | cons v vs ih =>
    intro cs ex o h
    simp only [List.length_cons] at h
    simp only [splice]
    rw [List.set_append_left _ _ (by omega)]
    exact ih _ _ _ (by simp; omega)

theorem mem_splice {α : Type} (vs : List α) : ∀ (cs : List α) (o : Nat) (x : α), x ∈ splice cs o vs → x ∈ cs ∨ x ∈ vs := by
  induction vs with
  | nil => intro cs o x h; exact .inl h
  | cons v vs ih =>
    intro cs o x h
    rcases ih _ _ _ h with h | h
    · rcases List.mem_or_eq_of_mem_set h with h | h
      · exact .inl h
      · exact .inr (by simp [h])
    · exact .inr (by simp [h])

def IV.one : IV → Bool
  | .agg _ | .tup _ => false
  | _ => true
theorem IV.one_den {v : IV} (h : v.one = true) (E : Env) : (v.den E).oneCell' = true := by
  cases v <;> simp_all [IV.one, IV.den, Value.oneCell']

theorem storeCells_run (P : Program) (g : Nat) (t : TypeId) (lo hi : Nat) : ∀ (vs : List Value) (o i : Nat) (cur : List Value) (w : World),
    w.heap[g]? = some (.cells cur.toArray t (lo, hi)) → (∀ x, x < cur.length → ¬ (lo ≤ x ∧ x < hi)) → o + i + vs.length ≤ cur.length → (∀ v ∈ vs, v.oneCell' = true) →
    (storeCells ⟨g, o, none⟩ vs i).run P w = .ok () (World.putObj w g (.cells (splice cur (o + i) vs).toArray t (lo, hi))) := by
  intro vs
  induction vs with
  | nil =>
    intro o i cur w hg _ _ _
    simp only [storeCells, Sem.run_pure, splice]
    congr 1
    have hlt : g < w.heap.size := (Array.getElem?_eq_some_iff.1 hg).1
    have : w.heap.setIfInBounds g (.cells cur.toArray t (lo, hi)) = w.heap := by
      apply Array.ext_getElem?
      intro j
      rw [Array.getElem?_setIfInBounds]
      by_cases e : g = j
      · subst e; rw [if_pos rfl, if_pos hlt, hg]
      · rw [if_neg e]
    simp only [World.putObj, this]
  | cons v vs ih =>
    intro o i cur w hg hf hle hone
    have hlt : g < w.heap.size := (Array.getElem?_eq_some_iff.1 hg).1
    simp only [List.length_cons] at hle
    have hc : w.cell? ⟨g, o + i, none⟩ = some (cur[o + i]'(by omega)) := by
      simp only [World.cell?, hg]
      simp [List.getElem?_eq_getElem (show o + i < cur.length by omega)]
    have hfz : w.frozen? ⟨g, o + i, none⟩ = false := by
      simp only [World.frozen?, hg]
      have := hf (o + i) (by omega)
      simp only [Bool.and_eq_false_iff, decide_eq_false_iff_not]
      omega
    have hset : w.setCell ⟨g, o + i, none⟩ v = World.putObj w g (.cells (cur.set (o + i) v).toArray t (lo, hi)) := by
      simp only [World.setCell, World.putObj]
      congr 1
      apply Array.ext_getElem?
      intro j
      rw [Array.getElem?_modify, Array.getElem?_setIfInBounds]
      by_cases e : g = j
      · subst e; rw [if_pos rfl, if_pos rfl, if_pos hlt, hg]; simp
      · rw [if_neg e, if_neg e]
    simp only [storeCells, Sem.run_bind, Addr.add_mk, run_store P w _ v .plain (hone v (by simp)), hc, hfz, Bool.false_eq_true, if_false, Result.andThen_ok, hset]
    have hg' : (World.putObj w g (.cells (cur.set (o + i) v).toArray t (lo, hi))).heap[g]? = some (.cells (cur.set (o + i) v).toArray t (lo, hi)) := by
      rw [putObj_get _ _ _ _ hlt, if_pos rfl]
    have := ih o (i + 1) (cur.set (o + i) v) _ hg' (fun x hx => hf x (by simpa using hx)) (by simp; omega) (fun v hv => hone v (by simp [hv]))
    rw [this]
    simp only [splice]
    congr 1
    simp only [World.putObj]
    rw [Array.setIfInBounds_setIfInBounds]
    rfl

def storeI (h : H) (sz b o : Nat) (v : IV) : Option H :=
  match h.get b with
  | some (.cells cs e, true) =>
    bif Nat.beq v.cells.length sz && v.cells.all IV.one && Nat.ble (o + sz) cs.length then some (h.put b (.cells (splice cs o v.cells) e)) else none
  | _ => none

theorem storeI_run (hr : Rel P w0 E h w) {t : TypeId} {ty : Ty} (ht : TyOK P t ty) {b o : Nat} {v : IV} {h' : H} (hv : v.under h.next) (hs : storeI h ty.size b o v = some h') :
    ∃ w', (storeVar t ⟨E.ρ b, o, none⟩ (v.den E)).run P w = .ok () w' ∧ Rel P w0 E h' w' ∧ Step E h E h' := by
  unfold storeI at hs
  split at hs
  · next cs e hg =>
    cases hc : (Nat.beq v.cells.length ty.size && v.cells.all IV.one && Nat.ble (o + ty.size) cs.length) with
    | false => rw [hc] at hs; cases hs
    | true =>
      rw [hc] at hs
      simp only [cond_true, Option.some.injEq] at hs
      subst hs
      simp only [Bool.and_eq_true] at hc
      obtain ⟨⟨h1, h2⟩, h3⟩ := hc
      have h1 := Nat.eq_of_beq_eq_true h1
      have h3 := Nat.le_of_ble_eq_true h3
      obtain ⟨extra, lo, hi, g1, g2, g3, g4⟩ := hr.cells hg
      have hrun := storeCells_run P (E.ρ b) e lo hi (denL E v.cells) o 0 (denL E cs ++ extra) w g1 g2 (by simp [length_denL]; omega) (fun x hx => by
        rw [denL_eq, List.mem_map] at hx
        obtain ⟨y, hy, rfl⟩ := hx
        exact IV.one_den (List.all_eq_true.1 h2 y hy) E)
      have hsp : splice (denL E cs ++ extra) (o + 0) (denL E v.cells) = denL E (splice cs o v.cells) ++ extra := by
        rw [Nat.add_zero, splice_append _ _ _ _ (by simp [length_denL]; omega)]
        rw [denL_eq, denL_eq, denL_eq, splice_map]
      rw [hsp] at hrun
      refine ⟨_, ?_, hr.put hg ⟨extra, lo, hi, rfl, ?_, ?_, ?_⟩, ⟨Ext.refl _ _, Nat.le_refl _⟩⟩
      · unfold storeVar
        simp only [den_cells, Sem.run_bind, ht.run_size, Result.andThen_ok, List.size_toArray, length_denL, h1, ne_eq, not_true_eq_false, if_false, Sem.run_pure]
        exact hrun
      · intro x hx; exact g2 x (by simpa [length_denL, splice_length] using hx)
      · refine (underL_iff _ _).2 fun x hx => ?_
        rcases mem_splice _ _ _ _ hx with hx | hx
        · exact (underL_iff _ _).1 g3 x hx
        · exact (underL_iff _ _).1 (under_cells hv) x hx
      · rw [g4]; simp [length_denL, splice_length]
  · cases hs

/-! ### New blocks -/
theorem newCells_run (hr : Rel P w0 E h w) (cs : List IV) (e : TypeId) (k : Nat) (extra : List Value) (hu : underL h.next cs) (hk : k * P.cellsOf e = cs.length + extra.length) :
    Rel P w0 (E.bind h.next w.heap.size k) (h.new (.cells cs e)) { w with heap := w.heap.push (.cells (denL E cs ++ extra).toArray e) } ∧ Step E h (E.bind h.next w.heap.size k) (h.new (.cells cs e)) := by
  refine hr.new k rfl ⟨extra, 0, 0, ?_, fun o _ => by omega, underL_mono (by omega) _ hu, ?_⟩
  · rw [denL_ext (Env.bind_ext E h.next w.heap.size k) cs hu]
  · simp [Env.bind, length_denL, hk]
end
end Sx
