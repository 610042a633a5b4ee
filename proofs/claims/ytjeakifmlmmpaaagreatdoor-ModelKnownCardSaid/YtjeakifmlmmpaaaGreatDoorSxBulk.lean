/- The ideal machine's operations that make memory, and slices. -/
import Derived.Test.YtjeakifmlmmpaaaGreatDoorSxAddr
import Derived.Deep.AppendSrc
import Derived.Laws.MakeOwn
import Derived.Great.BuildSlice
import Derived.Laws.Slices
namespace Sx
open Go Go.RowKit
set_option linter.unusedSimpArgs false

section
variable {P : Program} {T : Tr Ty} (hT : TabOK P T) {w0 : World} {E : Env} {h : H} {w : World}

theorem newCells_run0 (hr : Rel P w0 E h w) (cs : List IV) (e : TypeId) (k : Nat) (hu : underL h.next cs) (hk : k * P.cellsOf e = cs.length) :
    Rel P w0 (E.bind h.next w.heap.size k) (h.new (.cells cs e)) (w.alloc (.cells (denL E cs).toArray e)) ∧ Step E h (E.bind h.next w.heap.size k) (h.new (.cells cs e)) := by
  have := newCells_run hr cs e k [] hu (by simpa using hk)
  rwa [List.append_nil] at this

theorem bind_at (E : Env) (n p k : Nat) : (E.bind n p k).ρ n = p := by simp [Env.bind]
theorem bind_κ (E : Env) (n p k : Nat) : (E.bind n p k).κ n = k := by simp [Env.bind]

/-! ### Variables and literals -/
/-- alloc, box -/
theorem newVar_run (hr : Rel P w0 E h w) {t : TypeId} {ty : Ty} (ht : TyOK P t ty) {x : IV} (hx : x.under h.next) (hl : x.cells.length = ty.size) :
    ∃ E' w', (newVar t (x.den E)).run P w = .ok ⟨E'.ρ h.next, 0, none⟩ w' ∧ Rel P w0 E' (h.new (.cells x.cells t)) w' ∧ Step E h E' (h.new (.cells x.cells t)) := by
  have := newCells_run hr x.cells t 1 [] (under_cells hx) (by rw [ht.cellsOf]; simp [hl])
  refine ⟨_, _, ?_, this.1, this.2⟩
  simp [newVar, newRow, den_cells, Env.bind]

def allocI (T : Tr Ty) (t : TypeId) (h : H) : Option (IV × H) :=
  match T.get t with
  | some ty => bif Nat.beq ty.zv.cells.length ty.size then some (.ptr h.next 0, h.new (.cells ty.zv.cells t)) else none
  | none => none

include hT in
theorem allocI_run (hr : Rel P w0 E h w) {t : TypeId} {v : IV} {h' : H} (hf : allocI T t h = some (v, h')) :
    Gives P w0 E h w (Instr.alloc t true (.tuple #[])) v h' := by
  unfold allocI at hf
  split at hf
  · next ty ht =>
    have hty := hT _ _ ht
    cases hc : Nat.beq ty.zv.cells.length ty.size with
    | false => rw [hc] at hf; cases hf
    | true =>
      rw [hc] at hf
      cases hf
      obtain ⟨E', w', h1, h2, h3⟩ := newVar_run hr hty (x := ty.zv) (IV.under_of_flat _ _ hty.flat) (Nat.eq_of_beq_eq_true hc)
      refine ⟨E', w', ?_, h2, h3, by simp [IV.under]⟩
      simp [Instr.alloc, hty.run_zero E, h1, IV.den]
  · cases hf

def boxI (T : Tr Ty) (t : TypeId) (x : IV) (h : H) : Option (IV × H) :=
  match T.get t with
  | some ty => bif Nat.beq x.cells.length ty.size then some (.ptr h.next 0, h.new (.cells x.cells t)) else none
  | none => none

include hT in
theorem boxI_run (hr : Rel P w0 E h w) {t : TypeId} {x v : IV} {h' : H} (hx : x.under h.next) (hf : boxI T t x h = some (v, h')) :
    Gives P w0 E h w (Instr.box t (x.den E)) v h' := by
  unfold boxI at hf
  split at hf
  · next ty ht =>
    have hty := hT _ _ ht
    cases hc : Nat.beq x.cells.length ty.size with
    | false => rw [hc] at hf; cases hf
    | true =>
      rw [hc] at hf
      cases hf
      obtain ⟨E', w', h1, h2, h3⟩ := newVar_run hr hty hx (Nat.eq_of_beq_eq_true hc)
      refine ⟨E', w', ?_, h2, h3, by simp [IV.under]⟩
      simp [Instr.box, h1, IV.den]
  · cases hf

/-- n times the zero cells -/
def zerosI (zs : List IV) (n : Nat) : List IV := (List.replicate n zs).flatten

theorem range_mod_flatten {α : Type} (zs : List α) (d : α) : ∀ n : Nat, (List.range (n * zs.length)).map (fun i => zs.getD (i % zs.length) d) = (List.replicate n zs).flatten := by
  intro n
  induction n with
  | zero => simp
  | succ n ih =>
    rw [Nat.succ_mul, List.range_add, List.map_append, ih, List.replicate_succ', List.flatten_append]
    congr 1
    simp only [List.map_map, List.flatten_cons, List.flatten_nil, List.append_nil]
    apply List.ext_getElem?
    intro i
    rw [List.getElem?_map]
    by_cases hi : i < zs.length
    · rw [List.getElem?_range hi]
      simp [Nat.add_mod_right, Nat.mul_add_mod_self_right, Nat.mod_eq_of_lt hi, hi]
    · rw [List.getElem?_eq_none (by simp; omega), List.getElem?_eq_none (by omega)]
      rfl

theorem madeCells_eq (E : Env) (zs : List IV) (n : Nat) :
    (Array.range (n * zs.length)).map (fun i => (denL E zs).toArray[i % (denL E zs).toArray.size]!) = (denL E (zerosI zs n)).toArray := by
  apply Array.ext'
  simp only [Array.toList_map, Array.toList_range, List.size_toArray, length_denL]
  have h1 : (List.range (n * zs.length)).map (fun i => (denL E zs).toArray[i % zs.length]!) = (List.range (n * (denL E zs).length)).map (fun i => (denL E zs).getD (i % (denL E zs).length) default) := by
    rw [length_denL]
    refine List.map_congr_left fun i _ => ?_
    simp
  rw [h1, range_mod_flatten]
  simp [zerosI, denL_eq, List.map_flatten, List.map_replicate]

theorem length_zerosI (zs : List IV) (n : Nat) : (zerosI zs n).length = n * zs.length := by simp [zerosI]

theorem under_zerosI {n : Nat} {zs : List IV} (h : underL n zs) (k : Nat) : underL n (zerosI zs k) := by
  refine (underL_iff _ _).2 fun v hv => ?_
  simp only [zerosI, List.mem_flatten, List.mem_replicate] at hv
  obtain ⟨l, ⟨_, rfl⟩, hv⟩ := hv
  exact (underL_iff _ _).1 h v hv

def buildSliceI (T : Tr Ty) (t : TypeId) (len : Nat) (parts : List (Nat × IV)) (h : H) : Option (IV × H) :=
  match T.get t with
  | some ty =>
    match ty.d with
    | .slice e =>
      match T.get e with
      | some et =>
        bif Nat.beq len 0 && parts.isEmpty then some (.slice h.next 0 len (.hard len), h.new (.cells [] e)) else
        bif Nat.beq et.zv.cells.length et.size && Nat.ble 1 (len * et.size) && Nat.ble (len * et.size) 16777216 then
          match fillI (fun i => some (i * et.size, et.size)) (zerosI et.zv.cells len) parts with
          | some cs => some (.slice h.next 0 len (.hard len), h.new (.cells cs e))
          | none => none
        else none
      | none => none
    | _ => none
  | none => none

include hT in
theorem buildSliceI_run (hr : Rel P w0 E h w) {t : TypeId} {len : Nat} {parts : List (Nat × IV)} {v : IV} {h' : H} (hx : ∀ p ∈ parts, p.2.under h.next) (hf : buildSliceI T t len parts h = some (v, h')) :
    Gives P w0 E h w (Instr.buildSlice t len (parts.map fun p => (p.1, p.2.den E)).toArray) v h' := by
  unfold buildSliceI at hf
  split at hf
  · next ty ht =>
    have hu := (hT _ _ ht).und
    split at hf
    · next e hd =>
      split at hf
      · next et het =>
        have hety := hT _ _ het
        cases hc0 : (Nat.beq len 0 && parts.isEmpty) with
        | true =>
          rw [hc0] at hf
          cases hf
          simp only [Bool.and_eq_true, List.isEmpty_iff] at hc0
          obtain ⟨c0, rfl⟩ := hc0
          obtain rfl := Nat.eq_of_beq_eq_true c0
          obtain ⟨i, i1, i2, i3, i4⟩ := hety.info
          have hrun : (Instr.buildSlice t 0 (([] : List (Nat × IV)).map fun p => (p.1, p.2.den E)).toArray).run P w = .ok (.slice (some ⟨w.heap.size, 0, none⟩) 0 0) (w.alloc (.cells #[] e)) := by
            rw [hd] at hu
            simp [Instr.buildSlice, run_underlying hu, hety.run_size, newRow, Instr.fill]
            rw [show Array.map (fun _ => (default : Value)) (Array.range 0) = #[] from Array.eq_empty_of_size_eq_zero (by simp)]
          have hnew := newCells_run0 hr [] e 0 (by simp [underL]) (by simp)
          exact ⟨_, _, hrun.trans (by rw [IV.den, bind_at]; rfl), hnew.1, hnew.2, by simp [IV.under]⟩
        | false =>
        rw [hc0] at hf
        simp only [cond_false] at hf
        cases hc : (Nat.beq et.zv.cells.length et.size && Nat.ble 1 (len * et.size) && Nat.ble (len * et.size) 16777216) with
        | false => rw [hc] at hf; cases hf
        | true =>
          rw [hc] at hf
          simp only [cond_true] at hf
          simp only [Bool.and_eq_true] at hc
          have h1 := Nat.eq_of_beq_eq_true hc.1.1
          have h2 := Nat.le_of_ble_eq_true hc.1.2
          have h3 := Nat.le_of_ble_eq_true hc.2
          split at hf
          · next cs hfi =>
            cases hf
            obtain ⟨r1, r2, r3⟩ := fillI_run E _ _ _ _ h.next hfi
            have hzu : underL h.next (zerosI et.zv.cells len) := under_zerosI (under_cells (IV.under_of_flat _ _ hety.flat)) len
            obtain ⟨i, i1, i2, i3, i4⟩ := hety.info
            have hz := madeCells_eq E et.zv.cells len
            have hrun := run_buildSlice (P := P) w t e len (parts.map fun p => (p.1, p.2.den E)).toArray (denL E cs).toArray i (et.zv.den E) (by rw [hu, hd]) i1 (i4 E) (by rw [i2]; omega) (by rw [i2]; omega) (by
              rw [i2, den_cells]
              rw [← h1, hz, h1]
              exact r1)
            have hnew := newCells_run0 hr cs e len (r2 hzu hx) (by rw [hety.cellsOf, r3, length_zerosI, h1])
            exact ⟨_, _, hrun.trans (by rw [IV.den, bind_at]; rfl), hnew.1, hnew.2, by simp [IV.under]⟩
          · cases hf
      · cases hf
    · cases hf
  · cases hf

def makeSliceI (T : Tr Ty) (t : TypeId) (l c : IV) (h : H) : Option (IV × H) :=
  match T.get t, l, c with
  | some ty, .int _ l, .int _ c =>
    match ty.d with
    | .slice e =>
      match T.get e with
      | some et =>
        if 0 ≤ l ∧ l ≤ c ∧ c ≤ 1099511627776 ∧ (et.bytes : Int) * c ≤ 281474976710656 ∧ et.zv.cells.length = et.size ∧ 0 < et.size then
          some (.slice h.next 0 l.toNat (.hard c.toNat), h.new (.cells (zerosI et.zv.cells c.toNat) e))
        else none
      | none => none
    | _ => none
  | _, _, _ => none

include hT in
theorem makeSliceI_run (hr : Rel P w0 E h w) {t : TypeId} {l c v : IV} {h' : H} (hf : makeSliceI T t l c h = some (v, h')) :
    Gives P w0 E h w (Instr.makeSlice t (l.den E) (c.den E)) v h' := by
  unfold makeSliceI at hf
  split at hf
  · next ty kl l kc c ht =>
    have hu := (hT _ _ ht).und
    split at hf
    · next e hd =>
      split at hf
      · next et het =>
        have hety := hT _ _ het
        split at hf
        · next hc =>
          cases hf
          obtain ⟨c1, c2, c3, c4, c5, c6⟩ := hc
          obtain ⟨i, i1, i2, i3, i4⟩ := hety.info
          have hrun := run_make (P := P) w t e i (et.zv.den E) (by rw [hu, hd]) i1 (i4 E) kl kc l c c1 c2 (by rw [i3]; exact c4) (by omega)
          have hz := madeCells_eq E et.zv.cells c.toNat
          have hm : madeCells (et.zv.den E).cells (c.toNat * i.size) = (denL E (zerosI et.zv.cells c.toNat)).toArray := by
            rw [← hz, i2, c5, den_cells]; rfl
          rw [hm] at hrun
          have hnew := newCells_run0 hr (zerosI et.zv.cells c.toNat) e c.toNat (under_zerosI (under_cells (IV.under_of_flat _ _ hety.flat)) _) (by rw [hety.cellsOf, length_zerosI, c5])
          exact ⟨_, _, hrun.trans (by rw [IV.den, bind_at]; rfl), hnew.1, hnew.2, by simp [IV.under]⟩
        · cases hf
      · cases hf
    · cases hf
  · cases hf

/-! ### Slicing -/
def boundI (x : Option IV) (d : Nat) : Option Nat :=
  match x with
  | none => some d
  | some (.int _ i) => if 0 ≤ i then some i.toNat else none
  | _ => none

def sliceI (T : Tr Ty) (t : TypeId) (x : IV) (lo hi mx : Option IV) (h : H) : Option IV :=
  match T.get t with
  | none => none
  | some ty =>
    match ty.d, x, mx with
    | .string, .str s, none =>
      match boundI lo 0, boundI hi s.length with
      | some l, some u => bif Nat.ble l u && Nat.ble u s.length then some (.str ((s.take u).drop l)) else none
      | _, _ => none
    | .slice e, .slice b o len (.hard c), mx =>
      match T.get e, boundI lo 0, boundI hi len, boundI mx c with
      | some et, some l, some u, some m =>
        bif Nat.ble l u && Nat.ble u m && Nat.ble m c && (mx.isNone || hi.isSome) then
          some (.slice b (bif Nat.beq l m then o else o + l * et.size) (u - l) (.hard (m - l))) else none
      | _, _, _, _ => none
    | .slice e, .nilslice, mx =>
      match T.get e, boundI lo 0, boundI hi 0, boundI mx 0 with
      | some _, some 0, some 0, some 0 => bif mx.isNone || hi.isSome then some .nilslice else none
      | _, _, _, _ => none
    | .slice e, .slice b o len (.soft k), mx =>
      match T.get e, boundI lo 0, boundI hi len, h.get b with
      | some et, some l, some u, some (.cells cs e', _) =>
        bif Nat.ble l u && Nat.ble 1 et.size && Nat.beq e e' && Nat.ble ((k + u) * et.size) cs.length then
          match mx with
          | none => bif Nat.ble ((k + l + 1) * et.size) cs.length then some (.slice b (o + l * et.size) (u - l) (.soft (k + l))) else
            bif Nat.beq l u then some (.tail b (o + l * et.size) (k + l) (l * et.size)) else none
          | some mx' => match boundI (some mx') 0 with
            | some m => bif Nat.ble u m && (Nat.ble (l + 1) m || Nat.beq l 0) && Nat.ble ((k + m) * et.size) cs.length && hi.isSome then some (.slice b (o + l * et.size) (u - l) (.hard (m - l))) else none
            | none => none
        else none
      | _, _, _, _ => none
    | .array n e, .ptr b o, mx =>
      match T.get e, boundI lo 0, boundI hi n, boundI mx n with
      | some et, some l, some u, some m =>
        bif Nat.ble l u && Nat.ble u m && Nat.ble m n && (mx.isNone || hi.isSome) then
          some (.slice b (bif Nat.beq l m then o else o + l * et.size) (u - l) (.hard (m - l))) else none
      | _, _, _, _ => none
    | _, _, _ => none

theorem boundI_some {x : Option IV} {d n : Nat} (h : boundI x d = some n) : (x = none ∧ n = d) ∨ ∃ k i, x = some (.int k i) ∧ 0 ≤ i ∧ n = i.toNat := by
  unfold boundI at h
  split at h
  · cases h; exact .inl ⟨rfl, rfl⟩
  · split at h
    · next hi => cases h; exact .inr ⟨_, _, rfl, hi, rfl⟩
    · cases h
  · cases h

theorem run_bound (E : Env) {x : Option IV} {d n : Nat} (h : boundI x d = some n) (y : Nat) (hn : n ≤ y) (code : BoundsCode) (w : World) :
    (match x.map (IV.den E) with
      | some v => Instr.sliceBound v y code
      | none => pure d : Sem Nat).run P w = .ok n w := by
  rcases boundI_some h with ⟨rfl, rfl⟩ | ⟨k, i, rfl, hi, rfl⟩
  · rfl
  · simp only [Option.map_some, IV.den]
    exact run_sliceBound w k i y code hi (by omega)

theorem run_bounds (E : Env) {lo hi mx : Option IV} {len cap l u m : Nat} (isS : Bool) (hl : boundI lo 0 = some l) (hu : boundI hi len = some u) (hm : boundI mx cap = some m)
    (h1 : l ≤ u) (h2 : u ≤ m) (h3 : m ≤ cap) (h4 : (mx.isNone || hi.isSome) = true) (w : World) :
    (Instr.sliceBounds isS len cap (lo.map (IV.den E)) (hi.map (IV.den E)) (mx.map (IV.den E))).run P w = .ok (l, u, m) w := by
  unfold Instr.sliceBounds
  rcases boundI_some hl with ⟨rfl, rfl⟩ | ⟨k1, i1, rfl, hi1, rfl⟩ <;> rcases boundI_some hu with ⟨rfl, rfl⟩ | ⟨k2, i2, rfl, hi2, rfl⟩ <;> rcases boundI_some hm with ⟨rfl, rfl⟩ | ⟨k3, i3, rfl, hi3, rfl⟩ <;>
    simp only [Option.map_some, Option.map_none, IV.den, Sem.run_bind, Sem.run_pure, Result.andThen_ok, Option.isSome_some, Option.isSome_none, Option.isNone_some, Option.isNone_none, Bool.or_false, Bool.or_true, Bool.false_eq_true, Bool.or_self] at h4 ⊢ <;>
    (try rw [run_sliceBound w k3 i3 cap _ hi3 (by omega)]) <;> (try simp only [Result.andThen_ok]) <;>
    (try rw [run_sliceBound w k2 i2 _ _ hi2 (by omega)]) <;> (try simp only [Result.andThen_ok]) <;>
    (try rw [run_sliceBound w k1 i1 _ _ hi1 (by omega)]) <;> (try simp only [Result.andThen_ok, Sem.run_pure])

include hT in
theorem sliceI_run (hr : Rel P w0 E h w) {t : TypeId} {x : IV} {lo hi mx : Option IV} {v : IV} (hx : x.under h.next) (hf : sliceI T t x lo hi mx h = some v) :
    Gives P w0 E h w (Instr.sliceAt t (x.den E) (lo.map (IV.den E)) (hi.map (IV.den E)) (mx.map (IV.den E))) v h := by
  unfold sliceI at hf
  split at hf
  · cases hf
  · next ty ht =>
    have hu := (hT _ _ ht).und
    split at hf
    · next s hd =>
      rw [hd] at hu
      split at hf
      · next l u hl hh =>
        cases hc : (Nat.ble l u && Nat.ble u s.length) with
        | false => rw [hc] at hf; cases hf
        | true =>
          rw [hc] at hf; cases hf
          simp only [Bool.and_eq_true] at hc
          have c1 := Nat.le_of_ble_eq_true hc.1
          have c2 := Nat.le_of_ble_eq_true hc.2
          have hsz : (ByteArray.mk s.toArray).size = s.length := by simp [ByteArray.size]
          have hb := run_bounds (P := P) E (mx := none) (cap := s.length) false hl hh rfl c1 c2 (Nat.le_refl _) rfl w
          simp only [Option.map_none] at hb
          refine Gives.same hr ?_ (by simp [IV.under])
          rw [run_sliceAt_string w t _ _ _ _ hu]
          simp only [Instr.slice, Sem.run_bind, run_underlying hu, Result.andThen_ok, IV.den, Option.map_none, Option.isSome_none, Bool.false_eq_true, if_false, hsz, hb, Sem.run_pure]
          congr 2
          apply ByteArray.ext
          simp only [ByteArray.data_extract]
          apply Array.ext'
          simp [List.drop_take]
      · cases hf
    · rename_i mx _ _ _ e b o len c hd
      rw [hd] at hu
      split at hf
      · rename_i et l u m het hl hh hm
        cases hc : (Nat.ble l u && Nat.ble u m && Nat.ble m c && (mx.isNone || hi.isSome)) with
        | false => rw [hc] at hf; cases hf
        | true =>
          rw [hc] at hf
          simp only [cond_true, Option.some.injEq] at hf
          subst hf
          simp only [Bool.and_eq_true] at hc
          have c1 := Nat.le_of_ble_eq_true hc.1.1.1
          have c2 := Nat.le_of_ble_eq_true hc.1.1.2
          have c3 := Nat.le_of_ble_eq_true hc.1.2
          have hb := run_bounds (P := P) E (cap := c) true hl hh hm c1 c2 c3 hc.2 w
          refine Gives.same hr ?_ (by simpa [IV.under] using hx)
          have hu' : P.underlying t = some (.slice (P.elem t)) := by simp [Program.elem, hu]
          rw [run_sliceAt_slice w t _ _ _ _ hu']
          simp only [Instr.slice, Sem.run_bind, run_underlying hu, Result.andThen_ok, IV.den, Cap.den, hb, (hT _ _ het).run_size, Sem.run_pure]
          by_cases e1 : m = l
          · subst e1; simp
          · have e2 : Nat.beq l m = false := by
              cases hq : Nat.beq l m
              · rfl
              · exact absurd (Nat.eq_of_beq_eq_true hq).symm e1
            simp [e1, e2, Addr.add_mk]
      · cases hf
    · rename_i mx _ _ _ e hd
      rw [hd] at hu
      split at hf
      · rename_i et het hl hh hm
        cases hc : (mx.isNone || hi.isSome) with
        | false => rw [hc] at hf; cases hf
        | true =>
          rw [hc] at hf; cases hf
          have hb := run_bounds (P := P) E (cap := 0) true hl hh hm (Nat.le_refl _) (Nat.le_refl _) (Nat.le_refl _) hc w
          refine Gives.same hr ?_ (by simp [IV.under])
          have hu' : P.underlying t = some (.slice (P.elem t)) := by simp [Program.elem, hu]
          rw [run_sliceAt_slice w t _ _ _ _ hu']
          simp [Instr.slice, run_underlying hu, IV.den, hb, (hT _ _ het).run_size]
      · cases hf
    · rename_i mx _ _ _ e b o len k hd
      rw [hd] at hu
      have hu' : P.underlying t = some (.slice (P.elem t)) := by simp [Program.elem, hu]
      split at hf
      · rename_i et l u cs e' wr het hl hh hg
        cases hc : (Nat.ble l u && Nat.ble 1 et.size && Nat.beq e e' && Nat.ble ((k + u) * et.size) cs.length) with
        | false => rw [hc] at hf; cases hf
        | true =>
          rw [hc] at hf
          simp only [cond_true] at hf
          simp only [Bool.and_eq_true] at hc
          have c1 := Nat.le_of_ble_eq_true hc.1.1.1
          have c2 := Nat.le_of_ble_eq_true hc.1.1.2
          have c3 := Nat.eq_of_beq_eq_true hc.1.2
          have c4 := Nat.le_of_ble_eq_true hc.2
          obtain ⟨extra, _, _, _, _, _, g4⟩ := hr.cells hg
          subst c3
          rw [(hT _ _ het).cellsOf] at g4
          have hκ : ∀ j, j * et.size ≤ cs.length → j ≤ E.κ b := fun j hj => by
            have : j * et.size ≤ E.κ b * et.size := by rw [g4]; simp [length_denL]; omega
            exact Nat.le_of_mul_le_mul_right this (by omega)
          have k1 := hκ _ c4
          split at hf
          · have hb := run_bounds (P := P) E (mx := none) (cap := E.κ b - k) true hl hh rfl c1 (by omega) (Nat.le_refl _) rfl w
            simp only [Option.map_none] at hb
            cases hc5 : Nat.ble ((k + l + 1) * et.size) cs.length with
            | true =>
              rw [hc5] at hf
              cases hf
              have k2 := hκ _ (Nat.le_of_ble_eq_true hc5)
              refine Gives.same hr ?_ (by simpa [IV.under] using hx)
              rw [run_sliceAt_slice w t _ _ _ _ hu']
              simp only [Instr.slice, Sem.run_bind, run_underlying hu, Result.andThen_ok, IV.den, Cap.den, Option.map_none, hb, (hT _ _ het).run_size, Sem.run_pure]
              have e1 : ¬ (E.κ b - k = l) := by omega
              simp [e1, Addr.add_mk]
              omega
            | false =>
              rw [hc5] at hf
              simp only [cond_false] at hf
              cases hc6 : Nat.beq l u with
              | false => rw [hc6] at hf; cases hf
              | true =>
                rw [hc6] at hf
                cases hf
                have e6 := Nat.eq_of_beq_eq_true hc6
                subst e6
                refine Gives.same hr ?_ (by simpa [IV.under] using hx)
                rw [run_sliceAt_slice w t _ _ _ _ hu']
                simp only [Instr.slice, Sem.run_bind, run_underlying hu, Result.andThen_ok, IV.den, Cap.den, Option.map_none, hb, (hT _ _ het).run_size, Sem.run_pure]
                by_cases e1 : E.κ b - k = l
                · have e2 : E.κ b - (k + l) = 0 := by omega
                  simp [e1, e2]
                · have e2 : ¬ (E.κ b - (k + l) = 0) := by omega
                  simp [e1, e2, Addr.add_mk]
                  omega
          · rename_i mx'
            split at hf
            · rename_i m hm
              cases hc2 : (Nat.ble u m && (Nat.ble (l + 1) m || Nat.beq l 0) && Nat.ble ((k + m) * et.size) cs.length && hi.isSome) with
              | false => rw [hc2] at hf; cases hf
              | true =>
                rw [hc2] at hf
                simp only [cond_true, Option.some.injEq] at hf
                subst hf
                simp only [Bool.and_eq_true] at hc2
                have d1 := Nat.le_of_ble_eq_true hc2.1.1.1
                have d2 : l + 1 ≤ m ∨ l = 0 := (Bool.or_eq_true _ _ ▸ hc2.1.1.2).imp Nat.le_of_ble_eq_true Nat.eq_of_beq_eq_true
                have d3 := hκ _ (Nat.le_of_ble_eq_true hc2.1.2)
                have hm' : boundI (some mx') (E.κ b - k) = some m := by
                  rcases boundI_some hm with ⟨h0, _⟩ | ⟨kk, i, h0, h1, h2⟩
                  · cases h0
                  · cases h0; simp [boundI, h1, h2]
                have hb := run_bounds (P := P) E (cap := E.κ b - k) true hl hh hm' c1 d1 (by omega) (by simp [hc2.2]) w
                refine Gives.same hr ?_ (by simpa [IV.under] using hx)
                rw [run_sliceAt_slice w t _ _ _ _ hu']
                simp only [Instr.slice, Sem.run_bind, run_underlying hu, Result.andThen_ok, IV.den, Cap.den, hb, (hT _ _ het).run_size, Sem.run_pure]
                by_cases e1 : m = l
                · obtain rfl : l = 0 := by omega
                  simp [e1]
                · simp [e1, Addr.add_mk]
            · cases hf
      · cases hf
    · rename_i mx _ _ _ n e b o hd
      rw [hd] at hu
      split at hf
      · rename_i et l u m het hl hh hm
        cases hc : (Nat.ble l u && Nat.ble u m && Nat.ble m n && (mx.isNone || hi.isSome)) with
        | false => rw [hc] at hf; cases hf
        | true =>
          rw [hc] at hf
          simp only [cond_true, Option.some.injEq] at hf
          subst hf
          simp only [Bool.and_eq_true] at hc
          have c1 := Nat.le_of_ble_eq_true hc.1.1.1
          have c2 := Nat.le_of_ble_eq_true hc.1.1.2
          have c3 := Nat.le_of_ble_eq_true hc.1.2
          have hb := run_bounds (P := P) E (cap := n) false hl hh hm c1 c2 c3 hc.2 w
          refine Gives.same hr ?_ (by simpa [IV.under] using hx)
          simp only [Instr.sliceAt, Sem.run_bind, run_underlying hu, Result.andThen_ok, IV.den, Cap.den, Instr.sureAddr, Sem.run_pure, hb, (hT _ _ het).run_size]
          by_cases e1 : m = l
          · subst e1; simp
          · have e2 : Nat.beq l m = false := by
              cases hq : Nat.beq l m
              · rfl
              · exact absurd (Nat.eq_of_beq_eq_true hq).symm e1
            simp [e1, e2, Addr.add_mk]
      · cases hf
    · cases hf
end
end Sx
