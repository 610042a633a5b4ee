/- conversions, copy, len, min, max, maps, string walks, interfaces. -/
import Derived.Test.YtjeakifmlmmpaaaGreatDoorSxGrow
namespace Sx
open Go Go.RowKit
set_option linter.unusedSimpArgs false

section
variable {P : Program} {T : Tr Ty} (hT : TabOK P T) {w0 : World} {E : Env} {h : H} {w : World}

/-! ### conversions -/
def bytesI : List IV → Option (List UInt8)
  | [] => some []
  | .int .u8 n :: l => (bytesI l).map fun r => UInt8.ofNat n.toNat :: r
  | _ => none

theorem bytesI_den (E : Env) : ∀ (l : List IV) (r : List UInt8), bytesI l = some r → ∃ ns : List Int, denL E l = ns.map (Value.int .u8) ∧ r = ns.map fun n => UInt8.ofNat n.toNat
  | [], r, h => by cases h; exact ⟨[], by simp [denL], rfl⟩
  | v :: l, r, h => by
    unfold bytesI at h
    split at h
    · next hv => cases hv
    · next n l' hv =>
      cases hv
      cases hl : bytesI l with
      | none => rw [hl] at h; cases h
      | some r' =>
        rw [hl] at h; cases h
        obtain ⟨ns, h1, h2⟩ := bytesI_den E l r' hl
        exact ⟨n :: ns, by simp [denL, IV.den, h1], by simp [h2]⟩
    · cases h

theorem bytesI_bytes (l : List UInt8) : bytesI (l.map fun b => IV.int .u8 b.toNat) = some l := by
  induction l with
  | nil => rfl
  | cons b l ih => simp [bytesI, ih]

theorem foldl_push_bytes' : ∀ (l : List Int) (r : ByteArray), l.foldl (fun r n => r.push (UInt8.ofNat n.toNat)) r = ⟨r.data ++ (l.map fun n => UInt8.ofNat n.toNat).toArray⟩
  | [], r => by simp
  | b :: l, r => by
    simp only [List.foldl_cons]
    rw [foldl_push_bytes' l]
    simp [ByteArray.push]

def convI (T : Tr Ty) (src dst : TypeId) (x : IV) (h : H) : Option (IV × H) :=
  match T.get src, T.get dst with
  | some sty, some dty =>
    match dty.d, x with
    | .int k, .int _ n => some (.int k (k.wrap n), h)
    | .string, .str s => some (.str s, h)
    | .string, .int _ n => some (.str (Utf8.encode n).data.toList, h)
    | .slice e, .str s =>
      match (T.get e).map Ty.d with
      | some (.int .u8) => match T.get e with
        | some et => bif Nat.beq et.size 1 then some (.slice h.next 0 s.length (.soft 0), h.new (.cells (s.map fun b => .int .u8 b.toNat) e)) else none
        | none => none
      | _ => none
    | .string, .nilslice => match sty.d with
      | .slice e => match (T.get e).map Ty.d with
        | some (.int .u8) => some (.str [], h)
        | _ => none
      | _ => none
    | .string, .slice b o len _ => match sty.d, h.get b with
      | .slice e, some (.cells cs _, _) => match (T.get e).map Ty.d with
        | some (.int .u8) => bif Nat.ble (o + len) cs.length then (bytesI ((cs.drop o).take len)).map fun l => (.str l, h) else none
        | _ => none
      | _, _ => none
    | _, _ => none
  | _, _ => none

include hT in
theorem convI_run (hr : Rel P w0 E h w) {src dst : TypeId} {x v : IV} {h' : H} (hf : convI T src dst x h = some (v, h')) :
    Gives P w0 E h w (convert src dst (x.den E)) v h' := by
  unfold convI at hf
  split at hf
  case h_2 => cases hf
  rename_i sty dty hs hd
  have us := (hT _ _ hs).und
  have ud := (hT _ _ hd).und
  split at hf
  · rename_i k _ n hk
    cases hf
    rw [hk] at ud
    refine Gives.same hr ?_ (by simp [IV.under])
    simp [convert, run_underlying us, run_underlying ud, IV.den, Conv.intToInt]
  · rename_i s hk
    cases hf
    rw [hk] at ud
    refine Gives.same hr ?_ (by simp [IV.under])
    simp only [convert, Sem.run_bind, run_underlying us, run_underlying ud, IV.den, Result.andThen_ok, Sem.run_pure]
  · rename_i k n hk
    cases hf
    rw [hk] at ud
    refine Gives.same hr ?_ (by simp [IV.under])
    simp only [convert, Sem.run_bind, run_underlying us, run_underlying ud, IV.den, Result.andThen_ok, Conv.intToString, Sem.run_pure]
  · rename_i e s hk
    rw [hk] at ud
    split at hf
    case h_2 => cases hf
    rename_i het
    cases he : T.get e with
    | none => rw [he] at het; cases het
    | some et =>
      rw [he] at het hf
      simp only [Option.map_some, Option.some.injEq] at het
      have ue := (hT _ _ he).und
      rw [het] at ue
      cases hc : Nat.beq et.size 1 with
      | false => simp only [hc] at hf; cases hf
      | true =>
        simp only [hc, cond_true, Option.some.injEq, Prod.mk.injEq] at hf
        obtain ⟨rfl, rfl⟩ := hf
        have hsz := Nat.eq_of_beq_eq_true hc
        have hrun : (convert src dst (.string ⟨s.toArray⟩)).run P w = _ := Lib.run_convert_string_bytes w src dst e ⟨s.toArray⟩ us ud ue
        have hlen : (ByteArray.mk s.toArray).size = s.length := by simp [ByteArray.size]
        have hcells : Lib.bytesCells w e ⟨s.toArray⟩ = (denL E (s.map fun (b : UInt8) => IV.int .u8 b.toNat) ++ List.replicate (grownCap w s.length 0 e - s.length) (Value.int .u8 0)).toArray := by
          apply Array.ext'
          simp [Lib.bytesCells, hlen, denL_eq, IV.den, Function.comp_def]
        have hge : s.length ≤ grownCap w s.length 0 e := by simp only [grownCap, Question.cut]; omega
        have hw : Lib.bytesWorld w e ⟨s.toArray⟩ = { w with heap := w.heap.push (.cells (Lib.bytesCells w e ⟨s.toArray⟩) e ((Lib.bytesCells w e ⟨s.toArray⟩).size, (Lib.bytesCells w e ⟨s.toArray⟩).size + 1)), drawn := w.drawn + 1 } := by
          have hh : (Lib.bytesWorld w e ⟨s.toArray⟩).heap = w.heap.push (.cells (Lib.bytesCells w e ⟨s.toArray⟩) e ((Lib.bytesCells w e ⟨s.toArray⟩).size, (Lib.bytesCells w e ⟨s.toArray⟩).size + 1)) := by
            apply Array.ext_getElem?
            intro j
            rw [Array.getElem?_push]
            by_cases hj : j = w.heap.size
            · subst hj; rw [if_pos rfl, Lib.bytesWorld_at_new]
            · rw [if_neg hj]
              by_cases hj2 : j < w.heap.size
              · rw [Lib.bytesWorld_at_old w e _ j hj2]
              · rw [Array.getElem?_eq_none (by rw [Lib.bytesWorld_size]; omega), Array.getElem?_eq_none (by omega)]
          have : Lib.bytesWorld w e ⟨s.toArray⟩ = { w with heap := (Lib.bytesWorld w e ⟨s.toArray⟩).heap, drawn := w.drawn + 1 } := rfl
          rw [this, hh]
        have hu : underL h.next (s.map fun (b : UInt8) => IV.int .u8 b.toNat) := (underL_iff _ _).2 fun v hv => by
          obtain ⟨b, _, rfl⟩ := List.mem_map.1 hv
          simp [IV.under]
        have hnew := hr.new (o := .cells (s.map fun (b : UInt8) => IV.int .u8 b.toNat) e) (ob := .cells (Lib.bytesCells w e ⟨s.toArray⟩) e ((Lib.bytesCells w e ⟨s.toArray⟩).size, (Lib.bytesCells w e ⟨s.toArray⟩).size + 1)) (grownCap w s.length 0 e) (w' := Lib.bytesWorld w e ⟨s.toArray⟩) (by rw [hw])
          ⟨List.replicate (grownCap w s.length 0 e - s.length) (Value.int .u8 0), _, _, by rw [denL_ext (Env.bind_ext E _ _ _) _ hu, hcells], by
            rw [denL_ext (Env.bind_ext E _ _ _) _ hu]
            intro z hz
            simp only [List.size_toArray]
            omega, underL_mono (by omega) _ hu, by
            rw [bind_κ, (hT _ _ he).cellsOf, hsz]
            simp [length_denL]
            omega⟩
        refine ⟨_, _, hrun.trans ?_, hnew.1, hnew.2, by simp [IV.under]⟩
        simp only [IV.den, bind_at, Cap.den, bind_κ, Nat.sub_zero, hlen]
  · rename_i hk
    rw [hk] at ud
    split at hf
    case h_2 => cases hf
    rename_i e hse
    rw [hse] at us
    split at hf
    case h_2 => cases hf
    rename_i het
    cases he : T.get e with
    | none => rw [he] at het; cases het
    | some et =>
      rw [he] at het
      simp only [Option.map_some, Option.some.injEq] at het
      have ue := (hT _ _ he).und
      rw [het] at ue
      cases hf
      refine Gives.same hr ?_ (by simp [IV.under])
      simp only [convert, Sem.run_bind, run_underlying us, run_underlying ud, run_underlying ue, IV.den, Result.andThen_ok, Conv.bytesToString, Sem.run_pure]
      rfl
  · rename_i b o len c hk
    rw [hk] at ud
    split at hf
    case h_2 => cases hf
    rename_i e cs e' wr hse hg
    rw [hse] at us
    split at hf
    case h_2 => cases hf
    rename_i het
    cases he : T.get e with
    | none => rw [he] at het; cases het
    | some et =>
      rw [he] at het
      simp only [Option.map_some, Option.some.injEq] at het
      have ue := (hT _ _ he).und
      rw [het] at ue
      cases hc : Nat.ble (o + len) cs.length with
      | false => rw [hc] at hf; cases hf
      | true =>
        rw [hc] at hf
        simp only [cond_true] at hf
        cases hb : bytesI ((cs.drop o).take len) with
        | none => rw [hb] at hf; cases hf
        | some l =>
          rw [hb] at hf
          cases hf
          obtain ⟨ns, n1, n2⟩ := bytesI_den E _ _ hb
          have hld := loadCells_run hr hg (Nat.le_of_ble_eq_true hc)
          rw [n1] at hld
          refine Gives.same hr ?_ (by simp [IV.under])
          have := run_bytesToString (P := P) w ⟨E.ρ b, o, none⟩ len (c.den E b) ns hld
          rw [foldl_push_bytes'] at this
          simp only [convert, Sem.run_bind, run_underlying us, run_underlying ud, run_underlying ue, IV.den, Result.andThen_ok]
          have h0 : ByteArray.empty.data = #[] := rfl
          rw [this, n2, h0, Array.empty_append]
  · cases hf

/-! ### len, cap, min, max -/
def lenI (T : Tr Ty) (t : TypeId) (x : IV) (h : H) : Option IV :=
  match T.get t with
  | none => none
  | some ty =>
    match ty.d, x with
    | .string, .str s => some (.int .i64 s.length)
    | .array n _, _ => some (.int .i64 n)
    | .slice _, .slice _ _ n _ => some (.int .i64 n)
    | .slice _, .nilslice => some (.int .i64 0)
    | .slice _, .tail _ _ _ _ => some (.int .i64 0)
    | .map _ _, .nilmap => some (.int .i64 0)
    | .map _ _, .map b => match h.get b with
      | some (.map es _, _) => some (.int .i64 es.length)
      | _ => none
    | _, _ => none

theorem getObj_run (P : Program) (w : World) (r : Nat) (o : Obj) (ho : w.heap[r]? = some o) (hc : ∀ c e f, o ≠ .cells c e f) : (getObj r).run P w = .ok o w := by
  unfold getObj
  cases o <;> first | exact absurd rfl (hc _ _ _) | simp only [Sem.run, ho]

include hT in
theorem lenI_run (hr : Rel P w0 E h w) {t ty' : TypeId} {x v : IV} (hf : lenI T t x h = some v) : Gives P w0 E h w (Builtin.len_ #[t] ty' #[x.den E]) v h := by
  unfold lenI at hf
  split at hf
  · cases hf
  rename_i ty ht
  have hu := (hT _ _ ht).und
  have hsz : ∀ s : List UInt8, (ByteArray.mk s.toArray).size = s.length := fun s => by simp [ByteArray.size]
  split at hf
  case h_8 => cases hf
  case h_7 =>
    rename_i b hd
    rw [hd] at hu
    split at hf
    case h_2 => cases hf
    rename_i es cl wr hg
    cases hf
    refine Gives.same hr ?_ (by simp [IV.under])
    have := (hr.obj _ _ _ hg).1.1
    simp [Builtin.len_, run_underlying hu, IV.den, getObj_run P w _ _ this (by simp), goInt]
  case h_1 =>
    rename_i s hd
    rw [hd] at hu
    cases hf
    refine Gives.same hr ?_ (by simp [IV.under])
    refine (run_len_string w t ty' _ hu).trans ?_
    rw [hsz]
    rfl
  all_goals
    rename_i hd
    rw [hd] at hu
    cases hf
    refine Gives.same hr ?_ (by simp [IV.under])
    simp [Builtin.len_, run_underlying hu, IV.den, goInt]

def capI (T : Tr Ty) (t : TypeId) (x : IV) : Option IV :=
  match T.get t with
  | none => none
  | some ty =>
    match ty.d, x with
    | .array n _, _ => some (.int .i64 n)
    | .slice _, .slice _ _ _ (.hard n) => some (.int .i64 n)
    | .slice _, .nilslice => some (.int .i64 0)
    | _, _ => none

include hT in
theorem capI_run (hr : Rel P w0 E h w) {t ty' : TypeId} {x v : IV} (hf : capI T t x = some v) : Gives P w0 E h w (Builtin.cap_ #[t] ty' #[x.den E]) v h := by
  unfold capI at hf
  split at hf
  · cases hf
  rename_i ty ht
  have hu := (hT _ _ ht).und
  split at hf
  case h_4 => cases hf
  all_goals
    rename_i hd
    rw [hd] at hu
    cases hf
    refine Gives.same hr ?_ (by simp [IV.under])
    simp [Builtin.cap_, run_underlying hu, IV.den, goInt, Cap.den]

def maxI : IV → List IV → Option IV
  | x, [] => some x
  | .int k x, .int _ y :: r => maxI (.int k (if y > x then y else x)) r
  | _, _ => none
def minI : IV → List IV → Option IV
  | x, [] => some x
  | .int k x, .int _ y :: r => minI (.int k (if y < x then y else x)) r
  | _, _ => none

theorem maxI_run (E : Env) (w : World) : ∀ (r : List IV) (x v : IV) (n : Nat), x.under n → maxI x r = some v → ((denL E r).foldlM Builtin.max2 (x.den E)).run P w = .ok (v.den E) w ∧ v.under n
  | [], x, v, n, hx, h => by simp only [maxI, Option.some.injEq] at h; subst h; exact ⟨rfl, hx⟩
  | y :: r, x, v, n, hx, h => by
    unfold maxI at h
    split at h
    · next he => cases he
    · next k x' k' y' r' he =>
      cases he
      have := maxI_run E w r (.int k (if y' > x' then y' else x')) v n (by simp [IV.under]) h
      simpa [denL, IV.den, Builtin.max2] using this
    · cases h
theorem minI_run (E : Env) (w : World) : ∀ (r : List IV) (x v : IV) (n : Nat), x.under n → minI x r = some v → ((denL E r).foldlM Builtin.min2 (x.den E)).run P w = .ok (v.den E) w ∧ v.under n
  | [], x, v, n, hx, h => by simp only [minI, Option.some.injEq] at h; subst h; exact ⟨rfl, hx⟩
  | y :: r, x, v, n, hx, h => by
    unfold minI at h
    split at h
    · next he => cases he
    · next k x' k' y' r' he =>
      cases he
      have := minI_run E w r (.int k (if y' < x' then y' else x')) v n (by simp [IV.under]) h
      simpa [denL, IV.den, Builtin.min2] using this
    · cases h

/-! ### copy -/
def copySrcI (size n : Nat) (x : IV) (h : H) : Option (List IV) :=
  match x with
  | .slice b o _ _ => match h.get b with
    | some (.cells cs _, _) => bif Nat.ble (o + n * size) cs.length then some ((cs.drop o).take (n * size)) else none
    | _ => none
  | .nilslice => some []
  | .str s => some ((s.take n).map fun b => .int .u8 b.toNat)
  | _ => none
def lenOfI : IV → Option Nat
  | .slice _ _ n _ => some n
  | .nilslice => some 0
  | .str s => some s.length
  | _ => none

def copyI (T : Tr Ty) (t : TypeId) (dst x : IV) (h : H) : Option (IV × H) :=
  match T.get t with
  | none => none
  | some ty =>
    match ty.d, lenOfI x with
    | .slice e, some m =>
      match T.get e, dst with
      | some et, .slice b o dl _ =>
        match copySrcI et.size (min m dl) x h, h.get b with
        | some news, some (.cells cs e', true) =>
          bif Nat.ble (o + news.length) cs.length && news.all IV.one then some (.int .i64 ((min m dl : Nat) : Int), h.put b (.cells (splice cs o news) e')) else none
        | _, _ => none
      | some et, .nilslice => match copySrcI et.size 0 x h with
        | some [] => some (.int .i64 0, h)
        | _ => none
      | _, _ => none
    | _, _ => none

theorem lenOfI_run (E : Env) {x : IV} {m : Nat} (h : lenOfI x = some m) (w : World) : (Builtin.lenOf (x.den E)).run P w = .ok m w := by
  unfold lenOfI at h
  split at h <;> cases h <;> simp [Builtin.lenOf, IV.den, ByteArray.size]

theorem copySrcI_run (hr : Rel P w0 E h w) {size n : Nat} {x : IV} {news : List IV} (hf : copySrcI size n x h = some news) :
    (Builtin.firstCells size n (x.den E)).run P w = .ok (denL E news).toArray w ∧ underL h.next news := by
  unfold copySrcI at hf
  split at hf
  · rename_i b o l c
    split at hf
    case h_2 => cases hf
    rename_i cs e wr hg
    cases hc : Nat.ble (o + n * size) cs.length with
    | false => rw [hc] at hf; cases hf
    | true =>
      rw [hc] at hf; cases hf
      exact ⟨loadCells_run hr hg (Nat.le_of_ble_eq_true hc), hr.under_take hg⟩
  · cases hf; simp [Builtin.firstCells, IV.den, denL, underL]
  · rename_i s
    cases hf
    refine ⟨?_, (underL_iff _ _).2 fun v hv => by obtain ⟨b, _, rfl⟩ := List.mem_map.1 hv; simp [IV.under]⟩
    simp only [Builtin.firstCells, IV.den, Sem.run_pure]
    congr 1
    apply Array.ext'
    simp [denL_eq, IV.den, Function.comp_def, ByteArray.data_extract, List.map_take]
  · cases hf

include hT in
theorem copyI_run (hr : Rel P w0 E h w) {t tx ty' : TypeId} {dst x v : IV} {h' : H} (hf : copyI T t dst x h = some (v, h')) :
    Gives P w0 E h w (Builtin.copy_ #[t, tx] ty' #[dst.den E, x.den E]) v h' := by
  unfold copyI at hf
  split at hf
  · cases hf
  rename_i ty ht
  have hu := (hT _ _ ht).und
  split at hf
  case h_2 => cases hf
  rename_i e m hd hm
  rw [hd] at hu
  have hlen := lenOfI_run (P := P) E hm w
  split at hf
  · rename_i et b o dl c het
    split at hf
    case h_2 => cases hf
    rename_i news cs e' hsrc hg
    cases hc : (Nat.ble (o + news.length) cs.length && news.all IV.one) with
    | false => rw [hc] at hf; cases hf
    | true =>
      rw [hc] at hf
      cases hf
      simp only [Bool.and_eq_true] at hc
      have c1 := Nat.le_of_ble_eq_true hc.1
      obtain ⟨s1, s2⟩ := copySrcI_run hr hsrc
      obtain ⟨extra, lo, hi, g1, g2, g3, g4⟩ := hr.cells hg
      have hsc := storeCells_run P (E.ρ b) e' lo hi (denL E news) o 0 (denL E cs ++ extra) w g1 g2 (by simp [length_denL]; omega) (fun u hu' => by
        rw [denL_eq, List.mem_map] at hu'
        obtain ⟨y, hy, rfl⟩ := hu'
        exact IV.one_den (List.all_eq_true.1 hc.2 y hy) E)
      have hsp : splice (denL E cs ++ extra) (o + 0) (denL E news) = denL E (splice cs o news) ++ extra := by
        rw [Nat.add_zero, splice_append _ _ _ _ (by simp [length_denL]; omega)]
        rw [denL_eq, denL_eq, denL_eq, splice_map]
      rw [hsp] at hsc
      refine ⟨E, _, ?_, hr.put hg ⟨extra, lo, hi, rfl, ?_, ?_, ?_⟩, ⟨Ext.refl _ _, Nat.le_refl _⟩, by simp [IV.under]⟩
      · simp only [Builtin.copy_, List.getElem?_toArray, List.getElem?_cons_zero, List.getElem?_cons_succ, Sem.run_bind, run_underlying hu, Result.andThen_ok, IV.den, hlen, (hT _ _ het).run_size]
        have s1' : (Builtin.firstCells et.size (Nat.min m dl) (x.den E)).run P w = .ok (denL E news).toArray w := s1
        rw [s1']
        simp only [Result.andThen_ok, hsc, Sem.run_pure, goInt]
      · intro z hz; exact g2 z (by simpa [length_denL, splice_length] using hz)
      · refine (underL_iff _ _).2 fun z hz => ?_
        rcases mem_splice _ _ _ _ hz with hz | hz
        · exact (underL_iff _ _).1 g3 z hz
        · exact (underL_iff _ _).1 s2 z hz
      · rw [g4]; simp [length_denL, splice_length]
  · rename_i et het
    split at hf
    case h_2 => cases hf
    rename_i hsrc
    cases hf
    refine Gives.same hr ?_ (by simp [IV.under])
    have h0 := (copySrcI_run hr (size := et.size) (n := 0) (x := x) (news := []) (by simpa using hsrc)).1
    simp only [Builtin.copy_, List.getElem?_toArray, List.getElem?_cons_zero, List.getElem?_cons_succ, Sem.run_bind, run_underlying hu, Result.andThen_ok, IV.den, hlen, (hT _ _ het).run_size]
    have h0' : (Builtin.firstCells et.size (Nat.min m 0) (x.den E)).run P w = .ok (denL E []).toArray w := by
      have : Nat.min m 0 = 0 := Nat.min_zero m
      rw [this]; exact h0
    rw [h0']
    simp [denL, goInt]
  · cases hf

end
end Sx
