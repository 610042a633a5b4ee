/- The ideal machine's operations on addresses, slices, aggregates. -/
import Derived.Test.YtjeakifmlmmpaaaGreatDoorSxPure
namespace Sx
open Go Go.RowKit
set_option linter.unusedSimpArgs false

def Gives (P : Program) (w0 : World) (E : Env) (h : H) (w : World) (s : Sem Value) (v : IV) (h' : H) : Prop :=
  ∃ E' w', s.run P w = .ok (v.den E') w' ∧ Rel P w0 E' h' w' ∧ Step E h E' h' ∧ v.under h'.next

section
variable {P : Program} {T : Tr Ty} (hT : TabOK P T) {w0 : World} {E : Env} {h : H} {w : World}

theorem Gives.same (hr : Rel P w0 E h w) {s : Sem Value} {v : IV} (hs : s.run P w = .ok (v.den E) w) (hv : v.under h.next) : Gives P w0 E h w s v h :=
  ⟨E, w, hs, hr, Step.refl _ _, hv⟩

/-! ### Fields and elements -/
def fieldAddrI (T : Tr Ty) (s : TypeId) (x : IV) (f : Nat) : Option IV :=
  match T.get s, x with
  | some ty, .ptr b o =>
    match ty.d with
    | .struct fs =>
      match fs[f]? with
      | some fd => match T.get fd.type with
        | some ft => bif Nat.beq ft.size 0 then none else some (.ptr b (o + fd.offset))
        | none => none
      | none => none
    | _ => none
  | _, _ => none

include hT in
theorem fieldAddrI_run (hr : Rel P w0 E h w) {s : TypeId} {x : IV} {f : Nat} {v : IV} (hx : x.under h.next) (hf : fieldAddrI T s x f = some v) :
    Gives P w0 E h w (Instr.fieldAt s (x.den E) f) v h := by
  unfold fieldAddrI at hf
  split at hf
  · next ty b o ht =>
    have hu := (hT _ _ ht).und
    split at hf
    · next fs hd =>
      split at hf
      · next fd hfd =>
        split at hf
        · next ft hft =>
          cases hz : Nat.beq ft.size 0 with
          | true => rw [hz] at hf; cases hf
          | false =>
            rw [hz] at hf
            simp only [cond_false, Option.some.injEq] at hf
            subst hf
            have hne : ft.size ≠ 0 := fun e => by rw [e] at hz; cases hz
            refine Gives.same hr ?_ (by simpa [IV.under] using hx)
            rw [hd] at hu
            simp [Instr.fieldAt, run_underlying hu, hfd, Instr.sureAddr, IV.den, fieldPlace, (hT _ _ hft).run_size, hne, Addr.add_mk]
        · cases hf
      · cases hf
    · cases hf
  · cases hf

def partI (T : Tr Ty) (t : TypeId) (cs : List IV) (off : Nat) : Option IV :=
  match T.get t with
  | some ty => bif aggD ty.d then some (.agg ((cs.drop off).take ty.size)) else cs[off]?
  | none => none

include hT in
theorem partI_run {t : TypeId} {cs : List IV} {off : Nat} {v : IV} {n : Nat} (hc : underL n cs) (hp : partI T t cs off = some v) (w : World) :
    (part t (denL E cs).toArray off).run P w = .ok (v.den E) w ∧ v.under n := by
  unfold partI at hp
  split at hp
  · next ty ht =>
    have hty := hT _ _ ht
    unfold part
    simp only [Sem.run_bind, hty.run_agg, Result.andThen_ok]
    cases ha : aggD ty.d with
    | true =>
      rw [ha] at hp
      simp only [cond_true, Option.some.injEq] at hp
      subst hp
      simp only [if_true, Sem.run_bind, hty.run_size, Result.andThen_ok, Sem.run_pure, IV.den, IV.under]
      refine ⟨?_, (underL_iff _ _).2 fun v hv => (underL_iff _ _).1 hc v (List.mem_of_mem_drop (List.mem_of_mem_take hv))⟩
      congr 2
      rw [denL_eq, denL_eq]
      apply Array.ext'
      simp [List.map_drop, List.map_take]
    | false =>
      rw [ha] at hp
      simp only [cond_false] at hp
      have : (denL E cs).toArray[off]? = some (v.den E) := by simp [denL_eq, hp]
      simp only [Bool.false_eq_true, if_false, this, Sem.run_pure, true_and]
      exact (underL_iff _ _).1 hc v (List.mem_of_getElem? hp)
  · cases hp

def fieldI (T : Tr Ty) (s : TypeId) (x : IV) (f : Nat) : Option IV :=
  match T.get s, x with
  | some ty, .agg cs =>
    match ty.d with
    | .struct fs =>
      match fs[f]? with
      | some fd => partI T fd.type cs fd.offset
      | none => none
    | _ => none
  | _, _ => none

include hT in
theorem fieldI_run (hr : Rel P w0 E h w) {s : TypeId} {x : IV} {f : Nat} {v : IV} (hx : x.under h.next) (hf : fieldI T s x f = some v) :
    Gives P w0 E h w (Instr.field s (x.den E) f) v h := by
  unfold fieldI at hf
  split at hf
  · next ty cs ht =>
    have hu := (hT _ _ ht).und
    split at hf
    · next fs hd =>
      split at hf
      · next fd hfd =>
        have hp := partI_run (E := E) hT (n := h.next) (by simpa [IV.under] using hx) hf w
        refine Gives.same hr ?_ hp.2
        rw [hd] at hu
        simp [Instr.field, run_underlying hu, hfd, asAgg, IV.den, hp.1]
      · cases hf
    · cases hf
  · cases hf

def indexAddrI (T : Tr Ty) (t : TypeId) (x ix : IV) : Option IV :=
  match T.get t, ix with
  | some ty, .int _ i =>
    match ty.d, x with
    | .array n e, .ptr b o =>
      match T.get e with
      | some et => if 0 ≤ i ∧ i < (n : Int) then some (.ptr b (o + i.toNat * et.size)) else none
      | none => none
    | .slice e, .slice b o len _ =>
      match T.get e with
      | some et => if 0 ≤ i ∧ i < (len : Int) then some (.ptr b (o + i.toNat * et.size)) else none
      | none => none
    | _, _ => none
  | _, _ => none

include hT in
theorem indexAddrI_run (hr : Rel P w0 E h w) {t : TypeId} {x ix v : IV} (hx : x.under h.next) (hf : indexAddrI T t x ix = some v) :
    Gives P w0 E h w (Instr.indexAt t (x.den E) (ix.den E)) v h := by
  unfold indexAddrI at hf
  split at hf
  · next ty k i ht =>
    have hu := (hT _ _ ht).und
    split at hf
    · next n e b o hd =>
      split at hf
      · next et het =>
        split at hf
        · next hi =>
          cases hf
          refine Gives.same hr ?_ (by simpa [IV.under] using hx)
          rw [hd] at hu
          simp [Instr.indexAt, asIntOf, IV.den, run_underlying hu, Instr.sureAddr, hi, (hT _ _ het).run_size, Addr.add_mk]
        · cases hf
      · cases hf
    · next e b o len c hd =>
      split at hf
      · next et het =>
        split at hf
        · next hi =>
          cases hf
          refine Gives.same hr ?_ (by simpa [IV.under] using hx)
          rw [hd] at hu
          simp [Instr.indexAt, asIntOf, IV.den, run_underlying hu, hi, (hT _ _ het).run_size, Addr.add_mk]
        · cases hf
      · cases hf
    · cases hf
  · cases hf

def indexI (T : Tr Ty) (t : TypeId) (x ix : IV) : Option IV :=
  match T.get t, ix with
  | some ty, .int _ i =>
    match ty.d, x with
    | .array n e, .agg cs =>
      match T.get e with
      | some et => if 0 ≤ i ∧ i < (n : Int) then partI T e cs (i.toNat * et.size) else none
      | none => none
    | .string, .str s =>
      if 0 ≤ i then (s[i.toNat]?).map fun b => .int .u8 b.toNat else none
    | _, _ => none
  | _, _ => none

include hT in
theorem indexI_run (hr : Rel P w0 E h w) {t : TypeId} {x ix v : IV} (hx : x.under h.next) (hf : indexI T t x ix = some v) :
    Gives P w0 E h w (Instr.index t (x.den E) (ix.den E)) v h := by
  unfold indexI at hf
  split at hf
  · next ty k i ht =>
    have hu := (hT _ _ ht).und
    split at hf
    · next n e cs hd =>
      split at hf
      · next et het =>
        split at hf
        · next hi =>
          have hp := partI_run (E := E) hT (n := h.next) (by simpa [IV.under] using hx) hf w
          refine Gives.same hr ?_ hp.2
          rw [hd] at hu
          simp [Instr.index, asIntOf, IV.den, run_underlying hu, hi, (hT _ _ het).run_size, hp.1]
        · cases hf
      · cases hf
    · next s hd =>
      split at hf
      · next hi =>
        cases hs : s[i.toNat]? with
        | none => rw [hs] at hf; cases hf
        | some b =>
          rw [hs] at hf
          cases hf
          refine Gives.same hr ?_ (by simp [IV.under])
          rw [hd] at hu
          have hlt : i.toNat < s.length := (List.getElem?_eq_some_iff.1 hs).1
          have hb : s[i.toNat] = b := (List.getElem?_eq_some_iff.1 hs).2
          have hg : (ByteArray.mk s.toArray)[i.toNat]? = some b := by
            have hsz : i.toNat < (ByteArray.mk s.toArray).size := by simpa [ByteArray.size] using hlt
            rw [ByteArray.getElem?_lt' _ _ hsz]
            simp [← hb, ByteArray.getElem_eq_getElem_data]
          simp [Instr.index, asIntOf, IV.den, run_underlying hu, hi, hg]
      · cases hf
    · cases hf
  · cases hf

/-! ### Aggregates -/
def fillI (place : Nat → Option (Nat × Nat)) (cells : List IV) : List (Nat × IV) → Option (List IV)
  | [] => some cells
  | (i, v) :: rest =>
    match place i with
    | none => none
    | some (off, size) =>
      bif Nat.beq v.cells.length size && Nat.ble (off + v.cells.length) cells.length then fillI place (splice cells off v.cells) rest else none

theorem foldl_zipIdx_splice (l : List Value) : ∀ (k off : Nat) (cs : List Value),
    (l.zipIdx k).foldl (fun (cs : Array Value) (x : Value × Nat) => cs.setIfInBounds (off + x.2) x.1) cs.toArray = (splice cs (off + k) l).toArray := by
  induction l with
  | nil => intro k off cs; rfl
  | cons v l ih =>
    intro k off cs
    simp only [List.zipIdx_cons, List.foldl_cons, splice]
    rw [List.setIfInBounds_toArray, ih (k + 1) off]
    rfl

theorem fillI_run (E : Env) (place : Nat → Option (Nat × Nat)) : ∀ (parts : List (Nat × IV)) (cells res : List IV) (n : Nat), fillI place cells parts = some res →
    Instr.fill place (denL E cells).toArray (parts.map fun p => (p.1, p.2.den E)) = some (denL E res).toArray ∧ (underL n cells → (∀ p ∈ parts, p.2.under n) → underL n res) ∧ res.length = cells.length := by
  intro parts
  induction parts with
  | nil => intro cells res n h; cases h; exact ⟨rfl, fun h _ => h, rfl⟩
  | cons p parts ih =>
    intro cells res n h
    obtain ⟨i, v⟩ := p
    simp only [fillI] at h
    cases hp : place i with
    | none => rw [hp] at h; cases h
    | some q =>
      obtain ⟨off, size⟩ := q
      rw [hp] at h
      simp only at h
      cases hc : (Nat.beq v.cells.length size && Nat.ble (off + v.cells.length) cells.length) with
      | false => rw [hc] at h; cases h
      | true =>
        rw [hc] at h
        simp only [cond_true] at h
        simp only [Bool.and_eq_true] at hc
        have h1 := Nat.eq_of_beq_eq_true hc.1
        have h2 := Nat.le_of_ble_eq_true hc.2
        obtain ⟨r1, r2, r3⟩ := ih _ _ n h
        refine ⟨?_, fun hu hall => ?_, by rw [r3, splice_length]⟩
        · simp only [List.map_cons, Instr.fill, hp, den_cells, List.size_toArray, length_denL]
          have hn : ¬ ((decide (v.cells.length ≠ size) || decide (off + v.cells.length > cells.length)) = true) := by simp [h1]; omega
          rw [if_neg hn]
          have hz : (denL E v.cells).toArray.zipIdx.foldl (fun (cs : Array Value) (x : Value × Nat) => cs.setIfInBounds (off + x.2) x.1) (denL E cells).toArray = (denL E (splice cells off v.cells)).toArray := by
            rw [← Array.foldl_toList]
            simp only [Array.toList_zipIdx]
            rw [foldl_zipIdx_splice, Nat.add_zero, denL_eq, denL_eq, denL_eq, splice_map]
          have hz' : (denL E v.cells).toArray.zipIdx.foldl (fun (cs : Array Value) (x : Value × Nat) => match x with | (c, j) => cs.setIfInBounds (off + j) c) (denL E cells).toArray = (denL E (splice cells off v.cells)).toArray := hz
          rw [hz']
          exact r1
        · refine r2 ?_ (fun q hq => hall q (by simp [hq]))
          refine (underL_iff _ _).2 fun x hx => ?_
          rcases mem_splice _ _ _ _ hx with hx | hx
          · exact (underL_iff _ _).1 hu x hx
          · exact (underL_iff _ _).1 (under_cells (hall (i, v) (by simp))) x hx

def placesI (T : Tr Ty) : List Go.Field → Option (List (Nat × Nat))
  | [] => some []
  | f :: fs => match T.get f.type, placesI T fs with
    | some ty, some r => some ((f.offset, ty.size) :: r)
    | _, _ => none

include hT in
theorem placesI_run : ∀ (fs : List Go.Field) (r : List (Nat × Nat)), placesI T fs = some r → ∀ w,
    (fs.mapM fun f => do pure (f.offset, ← Go.sizeOf f.type) : Sem (List (Nat × Nat))).run P w = .ok r w := by
  intro fs
  induction fs with
  | nil => intro r h w; cases h; simp
  | cons f fs ih =>
    intro r h w
    simp only [placesI] at h
    split at h
    · next ty r' ht hr' =>
      cases h
      simp only [List.mapM_cons, Sem.run_bind, (hT _ _ ht).run_size, ih r' hr' w, Result.andThen_ok, Sem.run_pure]
    · cases h

def buildI (T : Tr Ty) (t : TypeId) (parts : List (Nat × IV)) : Option IV :=
  match T.get t with
  | some ty =>
    match ty.d with
    | .struct fs =>
      match placesI T fs.toList with
      | some ps => (fillI (fun i => ps[i]?) ty.zv.cells parts).map .agg
      | none => none
    | .array _ e =>
      match T.get e with
      | some et => (fillI (fun i => some (i * et.size, et.size)) ty.zv.cells parts).map .agg
      | none => none
    | _ => none
  | none => none

include hT in
theorem buildI_run (hr : Rel P w0 E h w) {t : TypeId} {parts : List (Nat × IV)} {v : IV} (hx : ∀ p ∈ parts, p.2.under h.next) (hf : buildI T t parts = some v) :
    Gives P w0 E h w (Instr.build t (parts.map fun p => (p.1, p.2.den E)).toArray) v h := by
  unfold buildI at hf
  split at hf
  · next ty ht =>
    have hty := hT _ _ ht
    have hu := hty.und
    have hzu : underL h.next ty.zv.cells := under_cells (IV.under_of_flat _ _ hty.flat)
    split at hf
    · next fs hd =>
      split at hf
      · next ps hps =>
        cases hfi : fillI (fun i => ps[i]?) ty.zv.cells parts with
        | none => rw [hfi] at hf; cases hf
        | some cs =>
          rw [hfi] at hf; cases hf
          obtain ⟨r1, r2, _⟩ := fillI_run E _ _ _ _ h.next hfi
          refine Gives.same hr ?_ (by simpa [IV.under] using r2 hzu hx)
          rw [hd] at hu
          have hm : (fs.mapM fun f => do pure (f.offset, ← Go.sizeOf f.type) : Sem (Array (Nat × Nat))).run P w = .ok ps.toArray w := by
            have := placesI_run hT _ _ hps w
            rw [Array.mapM_eq_mapM_toList]
            simp only [Sem.run_map, this, Result.andThen_ok]
          simp only [Instr.build, Sem.run_bind, hty.run_zero E, Result.andThen_ok, run_underlying hu, hm, den_cells]
          have : (fun (x : Nat) => ps.toArray[x]?) = (fun (i : Nat) => ps[i]?) := by funext i; simp
          simp only [this, r1, Sem.run_pure, IV.den]
      · cases hf
    · next n e hd =>
      split at hf
      · next et het =>
        cases hfi : fillI (fun i => some (i * et.size, et.size)) ty.zv.cells parts with
        | none => rw [hfi] at hf; cases hf
        | some cs =>
          rw [hfi] at hf; cases hf
          obtain ⟨r1, r2, _⟩ := fillI_run E _ _ _ _ h.next hfi
          refine Gives.same hr ?_ (by simpa [IV.under] using r2 hzu hx)
          rw [hd] at hu
          simp only [Instr.build, Sem.run_bind, hty.run_zero E, Result.andThen_ok, run_underlying hu, (hT _ _ het).run_size, den_cells, r1, Sem.run_pure, IV.den]
      · cases hf
    · cases hf
  · cases hf

end
end Sx
