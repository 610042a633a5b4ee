/- One operation of the ideal machine. -/
import Derived.Test.YtjeakifmlmmpaaaGreatDoorSxMaps
namespace Sx
open Go Go.RowKit
set_option linter.unusedSimpArgs false

def evos (tm : Tm) : List Operand → Option (List IV)
  | [] => some []
  | x :: xs => match evo tm x, evos tm xs with
    | some v, some vs => some (v :: vs)
    | _, _ => none

def evps (tm : Tm) : List (Nat × Operand) → Option (List (Nat × IV))
  | [] => some []
  | x :: xs => match evo tm x.2, evps tm xs with
    | some v, some vs => some ((x.1, v) :: vs)
    | _, _ => none

def evOpt (tm : Tm) : Option Operand → Option (Option IV)
  | none => some none
  | some x => (evo tm x).map some

/-- An operand that may name a global. -/
def evoG (tm : Tm) (h : H) : Operand → Option IV
  | .global g => match h.get (2 * g + 1) with
    | some (.gname g' i, _) => bif Nat.beq g' g then some (.ptr i 0) else none
    | _ => none
  | x => evo tm x

theorem evoG_of {tm : Tm} {h : H} {x : Operand} {v : IV} (e : evo tm x = some v) : evoG tm h x = some v := by
  cases x <;> first | exact e | cases e

def fnI : Fn → Option IFn
  | .func f => some (.func f)
  | .method s => some (.method s)
  | _ => none

def builtinI (T : Tr Ty) (b : Builtin) (ts : List TypeId) (args : List IV) (h : H) : Option (IV × H) :=
  match b, ts, args with
  | .append, [t, tx], [s, x] => appendI T t tx s x h
  | .len, [t], [x] => (lenI T t x h).map fun v => (v, h)
  | .cap, [t], [x] => (capI T t x).map fun v => (v, h)
  | .copy, [t, _], [d, x] => copyI T t d x h
  | .max, _, x :: r => (maxI x r).map fun v => (v, h)
  | .min, _, x :: r => (minI x r).map fun v => (v, h)
  | .clear, [t], [x] => match T.get t with
    | some _ => (clearI x h).map fun h' => (.tup [], h')
    | none => none
  | .delete, [t, _], [x, k] => (deleteI T t x k h).map fun h' => (.tup [], h')
  | _, _, _ => none

def iop (T : Tr Ty) (tm : Tm) (h : H) : Op → Option (IV × H)
  | .move x | .assign x => (evo tm x).map fun v => (v, h)
  | .pick c a b => match evo tm c with
    | some (.bool true) => (evo tm a).map fun v => (v, h)
    | some (.bool false) => (evo tm b).map fun v => (v, h)
    | _ => none
  | .alloc e => allocI T e h
  | .box e x => match evo tm x with
    | some v => boxI T e v h
    | none => none
  | .build t parts => match evps tm parts.toList with
    | some ps => (buildI T t ps).map fun v => (v, h)
    | none => none
  | .buildSlice t len parts => match evps tm parts.toList with
    | some ps => buildSliceI T t len ps h
    | none => none
  | .load t a => match evo tm a, T.get t with
    | some (.ptr b o), some ty => (loadI h (aggD ty.d) ty.size b o).map fun v => (v, h)
    | _, _ => none
  | .store t a x => match evo tm a, evo tm x, T.get t with
    | some (.ptr b o), some v, some ty => (storeI h ty.size b o v).map fun h' => (undefI, h')
    | _, _, _ => none
  | .nilCheck x => match evo tm x with
    | some .nilptr | some .nilif | some .nilfunc => none
    | some (.func (.method _) _ _) => none
    | some v => some (v, h)
    | none => none
  | .binOp op t x y _ => match evo tm x, evo tm y with
    | some a, some b => (binI T op t x y a b).map fun v => (v, h)
    | _, _ => none
  | .unOp op _ x => match evo tm x with
    | some a => (unI op a).map fun v => (v, h)
    | none => none
  | .convert s d x => match evo tm x with
    | some a => convI T s d a h
    | none => none
  | .makeInterface t x => match evo tm x with
    | some a => (makeIfaceI T t a).map fun v => (v, h)
    | none => none
  | .makeFunc fn first captured => match fnI fn, evos tm first.toList, evos tm captured.toList with
    | some f, some a, some c => some (.func f a c, h)
    | _, _, _ => none
  | .makeMap t r => match evOpt tm r with
    | some r => makeMapI T t r h
    | none => none
  | .makeSlice t l c => match evo tm l, evo tm c with
    | some l, some c => makeSliceI T t l c h
    | _, _ => none
  | .slice t x lo hi mx => match evoG tm h x, evOpt tm lo, evOpt tm hi, evOpt tm mx with
    | some x, some lo, some hi, some mx => (sliceI T t x lo hi mx h).map fun v => (v, h)
    | _, _, _, _ => none
  | .fieldAddr s x f => match evo tm x with
    | some x => (fieldAddrI T s x f).map fun v => (v, h)
    | none => none
  | .field s x f => match evo tm x with
    | some x => (fieldI T s x f).map fun v => (v, h)
    | none => none
  | .indexAddr t x i => match evo tm x, evo tm i with
    | some x, some i => (indexAddrI T t x i).map fun v => (v, h)
    | _, _ => none
  | .index t x i => match evo tm x, evo tm i with
    | some x, some i => (indexI T t x i).map fun v => (v, h)
    | _, _ => none
  | .lookup t x i ok => match evo tm x, evo tm i with
    | some x, some i => (lookupI T t x i ok h).map fun v => (v, h)
    | _, _ => none
  | .mapUpdate t m k x | .insert t m k x => match evo tm m, evo tm k, evo tm x with
    | some m, some k, some x => (mapUpdateI T t m k x h).map fun h' => (undefI, h')
    | _, _, _ => none
  | .range t x => match evo tm x with
    | some x => rangeI T t x h
    | none => none
  | .next it s => match evo tm it with
    | some x => nextI x s h
    | none => none
  | .entry it => match evo tm it with
    | some x => (entryI x h).map fun v => (v, h)
    | none => none
  | .typeAssert x _ t ok => match evo tm x with
    | some x => (assertI T x t ok).map fun v => (v, h)
    | none => none
  | .extract x i => match evo tm x with
    | some x => (extractI x i).map fun v => (v, h)
    | none => none
  | .call c => match c.callee with
    | .builtin b => match evos tm c.args.toList with
      | some args => builtinI T b c.argTypes.toList args h
      | none => none
    | _ => none
  | _ => none

def NextIs (E : Env) (v : IV) : Next → Prop
  | .value x => x = v.den E
  | .skip => v = undefI
  | _ => False

section
variable {P : Program} {T : Tr Ty} (hT : TabOK P T) {w0 : World} {E : Env} {h : H} {w : World} {ntmps : Nat} {tm : Tm} {a : Act}

theorem evoG_den (hr : Rel P w0 E h w) (f : FRel E h.next ntmps tm a) {x : Operand} {v : IV} (hv : evoG tm h x = some v) : a.eval x = v.den E ∧ v.under h.next := by
  unfold evoG at hv
  split at hv
  · rename_i g
    split at hv
    case h_2 => cases hv
    rename_i g' i wr hg
    have ho := (hr.obj _ _ _ hg).1
    cases hb : Nat.beq g' g with
    | false => rw [hb] at hv; cases hv
    | true =>
      rw [hb] at hv
      cases hv
      have hgg : g' = g := Nat.eq_of_beq_eq_true hb
      subst hgg
      refine ⟨?_, by simpa [IV.under] using ho.2⟩
      simp only [IV.den, Act.eval, ho.1]
  · exact evo_den f hv

theorem evos_den (f : FRel E h.next ntmps tm a) : ∀ {l : List Operand} {vs : List IV}, evos tm l = some vs → l.map a.eval = denL E vs ∧ underL h.next vs
  | [], vs, hv => by cases hv; simp [denL, underL]
  | x :: xs, vs, hv => by
    simp only [evos] at hv
    split at hv
    · next v ws h1 h2 =>
      cases hv
      have e1 := evo_den f h1
      have e2 := evos_den f h2
      simp [denL, underL, e1.1, e2.1, e1.2, e2.2]
    · cases hv

theorem evps_den (f : FRel E h.next ntmps tm a) : ∀ {l : List (Nat × Operand)} {vs : List (Nat × IV)}, evps tm l = some vs →
    l.map (fun p => (p.1, a.eval p.2)) = vs.map (fun p => (p.1, p.2.den E)) ∧ ∀ p ∈ vs, p.2.under h.next
  | [], vs, hv => by cases hv; simp
  | x :: xs, vs, hv => by
    simp only [evps] at hv
    split at hv
    · next v ws h1 h2 =>
      cases hv
      have e1 := evo_den f h1
      have e2 := evps_den f h2
      refine ⟨by simp [e1.1, e2.1], fun p hp => ?_⟩
      rcases List.mem_cons.1 hp with rfl | hp
      · exact e1.2
      · exact e2.2 p hp
    · cases hv

theorem evOpt_den (f : FRel E h.next ntmps tm a) {x : Option Operand} {v : Option IV} (hv : evOpt tm x = some v) : x.map a.eval = v.map (IV.den E) ∧ ∀ u, v = some u → u.under h.next := by
  cases x with
  | none => cases hv; simp
  | some x =>
    simp only [evOpt] at hv
    cases h1 : evo tm x with
    | none => rw [h1] at hv; cases hv
    | some u =>
      rw [h1] at hv
      cases hv
      have := evo_den f h1
      exact ⟨by simp [this.1], fun u' hu' => by cases hu'; exact this.2⟩

def OpGives (P : Program) (w0 : World) (E : Env) (h : H) (w : World) (s : Sem Next) (v : IV) (h' : H) : Prop :=
  ∃ E' w' nx, s.run P w = .ok nx w' ∧ NextIs E' v nx ∧ Rel P w0 E' h' w' ∧ Step E h E' h' ∧ v.under h'.next

theorem Gives.op {s : Sem Value} {v : IV} {h' : H} (g : Gives P w0 E h w s v h') : OpGives P w0 E h w (do pure (.value (← s))) v h' := by
  obtain ⟨E', w', h1, h2, h3, h4⟩ := g
  exact ⟨E', w', .value (v.den E'), by simp [h1], rfl, h2, h3, h4⟩

theorem OpGives.skip {s : Sem Unit} {h' : H} (g : ∃ w', s.run P w = .ok () w' ∧ Rel P w0 E h' w' ∧ Step E h E h') : OpGives P w0 E h w (do s; pure .skip) undefI h' := by
  obtain ⟨w', h1, h2, h3⟩ := g
  exact ⟨E, w', .skip, by simp [h1], rfl, h2, h3, by simp [undefI, IV.under, underL]⟩

include hT in
theorem builtinI_run (hr : Rel P w0 E h w) {b : Builtin} {ts : List TypeId} {ty' : TypeId} {cs : Array Bool} {args : List IV} (hu : underL h.next args) {v : IV} {h' : H} (hf : builtinI T b ts args h = some (v, h')) :
    OpGives P w0 E h w (builtin b ts.toArray ty' cs (denL E args).toArray) v h' := by
  unfold builtinI at hf
  split at hf
  · simp only [underL] at hu
    simp only [builtin, denL]
    exact (appendI_run hT hr hu.1 hf).op
  · rename_i t x
    cases hx : lenI T t x h with
    | none => rw [hx] at hf; cases hf
    | some u => rw [hx] at hf; cases hf; simp only [builtin, denL]; exact (lenI_run hT hr hx).op
  · rename_i t x
    cases hx : capI T t x with
    | none => rw [hx] at hf; cases hf
    | some u => rw [hx] at hf; cases hf; simp only [builtin, denL]; exact (capI_run hT hr hx).op
  · simp only [builtin, denL]; exact (copyI_run hT hr hf).op
  · rename_i ts' x r
    cases hx : maxI x r with
    | none => rw [hx] at hf; cases hf
    | some u =>
      rw [hx] at hf; cases hf
      simp only [underL] at hu
      have := maxI_run (P := P) E w r x v h.next hu.1 hx
      simp only [builtin, denL]
      refine Gives.op (Gives.same hr ?_ this.2)
      simpa [Builtin.max_] using this.1
  · rename_i ts' x r
    cases hx : minI x r with
    | none => rw [hx] at hf; cases hf
    | some u =>
      rw [hx] at hf; cases hf
      simp only [underL] at hu
      have := minI_run (P := P) E w r x v h.next hu.1 hx
      simp only [builtin, denL]
      refine Gives.op (Gives.same hr ?_ this.2)
      simpa [Builtin.min_] using this.1
  · rename_i t x
    split at hf
    · rename_i ty ht
      obtain ⟨u, h1, h2⟩ := Option.map_eq_some_iff.1 hf
      cases h2
      simp only [builtin, denL]
      exact (clearI_run hr (hT _ _ ht).und h1).op
    · cases hf
  · rename_i t t2 x k
    obtain ⟨u, h1, h2⟩ := Option.map_eq_some_iff.1 hf
    cases h2
    simp only [builtin, denL]
    exact (deleteI_run hT hr h1).op
  · cases hf

theorem map_some {α β : Type} {o : Option α} {f : α → β} {b : β} (h : o.map f = some b) : ∃ a, o = some a ∧ f a = b := by
  cases o with
  | none => cases h
  | some a => exact ⟨a, rfl, by simpa using h⟩

theorem parts_toArray (f : Operand → Value) (l : Array (Nat × Operand)) : (l.map fun (i, x) => (i, f x)) = (l.toList.map fun p => (p.1, f p.2)).toArray := by
  apply Array.ext'
  simp

include hT in
theorem iop_run (hr : Rel P w0 E h w) (f : FRel E h.next ntmps tm a) (o : Oper) {v : IV} {h' : H} (hf : iop T tm h o.op = some (v, h')) :
    OpGives P w0 E h w (execOp a.eval o) v h' := by
  obtain ⟨dst, op, type, pos, after, guard⟩ := o
  simp only at hf
  have val : ∀ (x : IV), x.under h.next → OpGives P w0 E h w (pure (.value (x.den E))) x h := fun x hx => ⟨E, w, _, rfl, rfl, hr, Step.refl _ _, hx⟩
  cases op <;> simp only [iop] at hf <;> simp only [execOp] <;> try cases hf
  case move x =>
    obtain ⟨u, h1, h2⟩ := map_some hf
    cases h2
    have e := evo_den f h1
    rw [e.1]; exact val _ e.2
  case assign x =>
    obtain ⟨u, h1, h2⟩ := map_some hf
    cases h2
    have e := evo_den f h1
    rw [e.1]; exact val _ e.2
  case pick c x y =>
    split at hf
    · next hc =>
      obtain ⟨u, h1, h2⟩ := map_some hf
      cases h2
      have e := evo_den f h1
      have ec := (evo_den f hc).1
      refine ⟨E, w, .value (v.den E), ?_, rfl, hr, Step.refl _ _, e.2⟩
      simp [ec, IV.den, asBool, e.1]
    · next hc =>
      obtain ⟨u, h1, h2⟩ := map_some hf
      cases h2
      have e := evo_den f h1
      have ec := (evo_den f hc).1
      refine ⟨E, w, .value (v.den E), ?_, rfl, hr, Step.refl _ _, e.2⟩
      simp [ec, IV.den, asBool, e.1]
    · cases hf
  case alloc e => exact (allocI_run hT hr hf).op
  case box e x =>
    split at hf
    · next u h1 =>
      have e1 := evo_den f h1
      rw [e1.1]; exact (boxI_run hT hr e1.2 hf).op
    · cases hf
  case build t parts =>
    split at hf
    · next ps h1 =>
      obtain ⟨u, h2, h3⟩ := map_some hf
      cases h3
      have e1 := evps_den f h1
      rw [parts_toArray, e1.1]
      exact (buildI_run hT hr e1.2 h2).op
    · cases hf
  case buildSlice t len parts =>
    split at hf
    · next ps h1 =>
      have e1 := evps_den f h1
      rw [parts_toArray, e1.1]
      exact (buildSliceI_run hT hr e1.2 hf).op
    · cases hf
  case load t x =>
    split at hf
    · next b o ty h1 ht =>
      obtain ⟨u, h2, h3⟩ := map_some hf
      cases h3
      have e1 := evo_den f h1
      have := loadI_run hr (hT _ _ ht) h2
      refine Gives.op (Gives.same hr ?_ this.2)
      rw [e1.1]
      simp [Instr.loadAt, Instr.sureAddr, IV.den, this.1]
    · cases hf
  case store t x y =>
    split at hf
    · next b o u ty h1 hy ht =>
      obtain ⟨u', h2, h3⟩ := map_some hf
      cases h3
      have e1 := evo_den f h1
      have e2 := evo_den f hy
      obtain ⟨w', r1, r2, r3⟩ := storeI_run hr (hT _ _ ht) e2.2 h2
      refine OpGives.skip ⟨w', ?_, r2, r3⟩
      rw [e1.1, e2.1]
      simp [Instr.storeAt, Instr.sureAddr, IV.den, r1]
    · cases hf
  case nilCheck x =>
    cases h1 : evo tm x with
    | none => rw [h1] at hf; cases hf
    | some u =>
      rw [h1] at hf
      have e1 := evo_den f h1
      rw [e1.1]
      split at hf
      · cases hf
      · cases hf
      · cases hf
      · cases hf
      · next n1 n2 n3 n4 n5 =>
        cases n5
        cases hf
        cases v <;> first
          | exact absurd rfl n1
          | exact absurd rfl n2
          | exact absurd rfl n3
          | exact val _ e1.2
          | (rename_i g _ _
             cases g <;> first
               | exact val _ e1.2
               | exact absurd rfl (n4 _ _ _))
      · cases hf
  case binOp op t x y yt =>
    split at hf
    · next p q h1 h2 =>
      obtain ⟨u, h3, h4⟩ := map_some hf
      cases h4
      have e1 := evo_den f h1
      have e2 := evo_den f h2
      rw [e1.1, e2.1]
      have := binI_run hT E w op t x y p q v h3
      exact Gives.op (Gives.same hr this.1 (this.2 _))
    · cases hf
  case unOp op t x =>
    split at hf
    · next p h1 =>
      obtain ⟨u, h3, h4⟩ := map_some hf
      cases h4
      have e1 := evo_den f h1
      rw [e1.1]
      have := unI_run (P := P) E w op p v h3
      exact Gives.op (Gives.same hr this.1 (this.2 _))
    · cases hf
  case convert s d x =>
    split at hf
    · next p h1 =>
      have e1 := evo_den f h1
      rw [e1.1]; exact (convI_run hT hr hf).op
    · cases hf
  case makeInterface t x =>
    split at hf
    · next p h1 =>
      obtain ⟨u, h3, h4⟩ := map_some hf
      cases h4
      have e1 := evo_den f h1
      rw [e1.1]; exact (makeIfaceI_run hT hr e1.2 h3).op
    · cases hf
  case makeFunc fn first captured =>
    split at hf
    · next g p q h1 h2 h3 =>
      cases hf
      have e2 := evos_den f h2
      have e3 := evos_den f h3
      have g1 : fn = g.den E ∧ g.under h.next := by
        cases fn <;> simp [fnI] at h1 <;> subst h1 <;> simp [IFn.den, IFn.under]
      refine Gives.op (Gives.same hr ?_ (by simp [IV.under, e2.2, e3.2, g1.2]))
      have a1 : first.map a.eval = (denL E p).toArray := by apply Array.ext'; simp [e2.1]
      have a2 : captured.map a.eval = (denL E q).toArray := by apply Array.ext'; simp [e3.1]
      simp [Instr.makeFunc, IV.den, a1, a2, g1.1]
    · cases hf
  case makeMap t r =>
    split at hf
    · next u h1 =>
      have e1 := evOpt_den f h1
      rw [e1.1]; exact (makeMapI_run hT hr hf).op
    · cases hf
  case makeSlice t l c =>
    split at hf
    · next p q h1 h2 =>
      have e1 := evo_den f h1
      have e2 := evo_den f h2
      rw [e1.1, e2.1]; exact (makeSliceI_run hT hr hf).op
    · cases hf
  case slice t x lo hi mx =>
    split at hf
    · next p q r s h1 h2 h3 h4 =>
      obtain ⟨u, h5, h6⟩ := map_some hf
      cases h6
      have e1 := evoG_den hr f h1
      rw [e1.1, (evOpt_den f h2).1, (evOpt_den f h3).1, (evOpt_den f h4).1]
      exact (sliceI_run hT hr e1.2 h5).op
    · cases hf
  case fieldAddr s x i =>
    split at hf
    · next p h1 =>
      obtain ⟨u, h3, h4⟩ := map_some hf
      cases h4
      have e1 := evo_den f h1
      rw [e1.1]; exact (fieldAddrI_run hT hr e1.2 h3).op
    · cases hf
  case field s x i =>
    split at hf
    · next p h1 =>
      obtain ⟨u, h3, h4⟩ := map_some hf
      cases h4
      have e1 := evo_den f h1
      rw [e1.1]; exact (fieldI_run hT hr e1.2 h3).op
    · cases hf
  case indexAddr t x i =>
    split at hf
    · next p q h1 h2 =>
      obtain ⟨u, h3, h4⟩ := map_some hf
      cases h4
      have e1 := evo_den f h1
      have e2 := evo_den f h2
      rw [e1.1, e2.1]; exact (indexAddrI_run hT hr e1.2 h3).op
    · cases hf
  case index t x i =>
    split at hf
    · next p q h1 h2 =>
      obtain ⟨u, h3, h4⟩ := map_some hf
      cases h4
      have e1 := evo_den f h1
      have e2 := evo_den f h2
      rw [e1.1, e2.1]; exact (indexI_run hT hr e1.2 h3).op
    · cases hf
  case lookup t x i ok =>
    split at hf
    · next p q h1 h2 =>
      obtain ⟨u, h3, h4⟩ := map_some hf
      cases h4
      have e1 := evo_den f h1
      have e2 := evo_den f h2
      rw [e1.1, e2.1]; exact (lookupI_run hT hr h3).op
    · cases hf
  case mapUpdate t m k x =>
    split at hf
    · next p q r h1 h2 h3 =>
      obtain ⟨u, h4, h5⟩ := map_some hf
      cases h5
      have e1 := evo_den f h1
      have e2 := evo_den f h2
      have e3 := evo_den f h3
      rw [e1.1, e2.1, e3.1]; exact OpGives.skip (mapUpdateI_run hT hr e2.2 e3.2 h4)
    · cases hf
  case insert t m k x =>
    split at hf
    · next p q r h1 h2 h3 =>
      obtain ⟨u, h4, h5⟩ := map_some hf
      cases h5
      have e1 := evo_den f h1
      have e2 := evo_den f h2
      have e3 := evo_den f h3
      rw [e1.1, e2.1, e3.1]; exact OpGives.skip (mapUpdateI_run hT hr e2.2 e3.2 h4)
    · cases hf
  case range t x =>
    split at hf
    · next p h1 =>
      have e1 := evo_den f h1
      rw [e1.1]; exact (rangeI_run hT hr hf).op
    · cases hf
  case next it s =>
    split at hf
    · next p h1 =>
      have e1 := evo_den f h1
      rw [e1.1]; exact (nextI_run hr hf).op
    · cases hf
  case entry it =>
    split at hf
    · next p h1 =>
      obtain ⟨u, h3, h4⟩ := map_some hf
      cases h4
      have e1 := evo_den f h1
      rw [e1.1]; exact (entryI_run hr h3).op
    · cases hf
  case typeAssert x xt t ok =>
    split at hf
    · next p h1 =>
      obtain ⟨u, h3, h4⟩ := map_some hf
      cases h4
      have e1 := evo_den f h1
      rw [e1.1]; exact (assertI_run hT hr e1.2 h3).op
    · cases hf
  case extract x i =>
    split at hf
    · next p h1 =>
      obtain ⟨u, h3, h4⟩ := map_some hf
      cases h4
      have e1 := evo_den f h1
      rw [e1.1]; exact (extractI_run hr e1.2 h3).op
    · cases hf
  case call c =>
    obtain ⟨callee, args, argTypes⟩ := c
    simp only at hf
    split at hf
    · next b =>
      split at hf
      · next vs h1 =>
        have e1 := evos_den f h1
        have hb := fun cs => builtinI_run hT hr (ty' := type) (cs := cs) e1.2 hf
        have a1 : args.map a.eval = (denL E vs).toArray := by apply Array.ext'; simp [e1.1]
        rw [← a1, Array.toArray_toList] at hb
        exact hb _
      · cases hf
    · cases hf

end
end Sx
