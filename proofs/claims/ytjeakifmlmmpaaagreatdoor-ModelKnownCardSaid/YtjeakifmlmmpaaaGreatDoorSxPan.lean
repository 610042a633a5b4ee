/- Calls that may panic, deferred calls, walks over maps whose order is open: a region's operations once more. -/
import Derived.Test.YtjeakifmlmmpaaaGreatDoorSxDrawP
import Derived.Test.YtjeakifmlmmpaaaGreatDoorSxSound
namespace Sx
open Go Go.RowKit
set_option linter.unusedSimpArgs false

def EndsX (P : Program) (w0 : World) (E : Env) (h : H) (Q : IV → H → Prop) (R : Value → H → Prop) (e : Ending) (w' : World) : Prop :=
  (∃ v h' E', e = .returned (v.den E') ∧ Rel P w0 E' h' w' ∧ Step E h E' h' ∧ v.under h'.next ∧ Q v h') ∨
  (∃ x h' E', e = .panicked [{ v := x, recovered := false }] ∧ Rel P w0 E' h' w' ∧ Step E h E' h' ∧ R x h')

theorem EndsX.mono {P : Program} {w0 : World} {E : Env} {h : H} {Q Q' : IV → H → Prop} {R R' : Value → H → Prop} {e : Ending} {w' : World} (hx : EndsX P w0 E h Q R e w')
    (hq : ∀ v h', Q v h' → Q' v h') (hr : ∀ v h', R v h' → R' v h') : EndsX P w0 E h Q' R' e w' := by
  rcases hx with ⟨v, h', E', h1, h2, h3, h4, h5⟩ | ⟨v, h', E', h1, h2, h3, h4⟩
  · exact .inl ⟨v, h', E', h1, h2, h3, h4, hq _ _ h5⟩
  · exact .inr ⟨v, h', E', h1, h2, h3, hr _ _ h4⟩

/-- What a call of f does: it returns, as Q says, or it panics, as R says. -/
def SpX (P : Program) (f : FuncId) (args : List IV) (h : H) (Q : IV → H → Prop) (R : Value → H → Prop) : Prop :=
  ∀ w0 E w, Rel P w0 E h w → underL h.next args → CallsIn Fence.wide 0 P f (denL E args).toArray w (EndsX P w0 E h Q R)

theorem SpX.mono {P : Program} {f : FuncId} {args : List IV} {h : H} {Q Q' : IV → H → Prop} {R R' : Value → H → Prop} (hx : SpX P f args h Q R)
    (hq : ∀ v h', Q v h' → Q' v h') (hr : ∀ v h', R v h' → R' v h') : SpX P f args h Q' R' :=
  fun w0 E w h1 h2 => (hx w0 E w h1 h2).mono fun _ _ he => he.mono hq hr

theorem SpX.sp {P : Program} {f : FuncId} {args : List IV} {h : H} {Q : IV → H → Prop} (hx : SpX P f args h Q fun _ _ => False) : Sp P f args h Q :=
  fun w0 E w h1 h2 => (hx w0 E w h1 h2).mono fun _ _ he => by
    rcases he with ⟨v, h', E', h1, h2, h3, h4, h5⟩ | ⟨v, h', E', h1, h2, h3, h4⟩
    · exact ⟨v, h', E', h1, h2, h3, h4, h5⟩
    · exact h4.elim

def UponX (P : Program) (r : Result Next) (R : Ending → World → Prop) : Prop :=
  match r with
  | .ok (.enter f args) w' => CallsIn Fence.wide 0 P f args w' R
  | _ => False

def ClX (P : Program) (fv : IV) (args : List IV) (h : H) (Q : IV → H → Prop) (R : Value → H → Prop) : Prop :=
  ∀ w0 E w, Rel P w0 E h w → fv.under h.next → underL h.next args →
    UponX P ((do let d ← Deferred.ofValue (fv.den E) (denL E args).toArray; invoke d.target d.args : Sem Next).run P w) (EndsX P w0 E h Q R)

theorem ClX.of_sp {P : Program} {f : FuncId} {first cap args : List IV} {h : H} {Q : IV → H → Prop} {R : Value → H → Prop} (hf : Go.Proofs.Enters P f) (hs : SpX P f (first ++ args ++ cap) h Q R) :
    ClX P (.func (.func f) first cap) args h Q R := by
  intro w0 E w hr hfu hu
  simp only [IV.under, IFn.under] at hfu
  have hrun : ((do let d ← Deferred.ofValue (IV.den E (.func (.func f) first cap)) (denL E args).toArray; invoke d.target d.args : Sem Next).run P w) = .ok (.enter f (denL E (first ++ args ++ cap)).toArray) w := by
    simp only [IV.den, IFn.den, Deferred.ofValue, Sem.run_bind, Sem.run_pure, Result.andThen_ok, invoke]
    have := hf (((denL E first).toArray ++ (denL E args).toArray) ++ (denL E cap).toArray) w
    rw [this]
    congr 2
    apply Array.ext'
    simp [denL_append]
  rw [hrun]
  exact hs w0 E w hr (underL_append (underL_append hfu.2.1 hu) hfu.2.2)

section
variable {P : Program} {T : Tr Ty} (hT : TabOK P T) {w0 : World} {E : Env} {h : H} {w : World} {ntmps : Nat} {fr : Fr} {a : Act} {ops : Array Oper} {rd : Option Nat}
  {Qc : Exit → Act → World → Prop} {i : Nat} {Kc : Act → World → Prop} {o : Oper}

theorem opStep_callX (hr : Rel P w0 E h w) (ha : ARel E h.next ntmps fr a) (ho : ops[i]? = some o) (hw : wantedI ops fr.tm o = true) (hd : ∀ k, o.dst = some k → k < ntmps) {c : Call} {fo : Operand}
    (hop : o.op = .call c) (hc : c.callee = .value fo) {fv : IV} {vs : List IV} (hfv : evo fr.tm fo = some fv) (hvs : evos fr.tm c.args.toList = some vs) {Q : IV → H → Prop} {R : Value → H → Prop} (hcl : ClX P fv vs h Q R)
    (hK : ∀ v h' E' w', Q v h' → Rel P w0 E' h' w' → Step E h E' h' → ARel E' h'.next ntmps (fr.put o.dst v) (a.put o.dst (v.den E')) → Kc (a.put o.dst (v.den E')) w')
    (hP : ∀ x h' E' w', R x h' → Rel P w0 E' h' w' → Step E h E' h' → ARel E' h'.next ntmps fr a → Qc (.panic [{ v := x, recovered := false }]) a w') :
    wpOpIn (Wd rd) 0 P ops Qc i Kc a w := by
  unfold wpOpIn
  rw [ho]
  simp only
  rw [wantedI_eq ha.f, hw]
  simp only [if_true]
  refine ⟨fun _ _ => trivial, ?_⟩
  have hnd : ∀ c, o.op ≠ .defer c := fun c e => by rw [hop] at e; cases e
  have e1 := evo_den ha.f hfv
  have e2 := evos_den ha.f hvs
  have a1 : c.args.map a.eval = (denL E vs).toArray := by apply Array.ext'; simp [e2.1]
  have hex : execOp a.eval o = (do let d ← Deferred.ofValue (fv.den E) (denL E vs).toArray; invoke d.target d.args : Sem Next) := by
    obtain ⟨callee, args, argTypes⟩ := c
    simp only at hc hop a1
    subst hc
    simp only [execOp, hop, resolve, a1, e1.1]
  rw [Oper.semAt_eq _ _ _ hnd, hex]
  have := hcl w0 E w hr e1.2 e2.2
  unfold UponX at this
  split at this
  · next f args w' hrun =>
    rw [hrun]
    refine ⟨fun hh => by simp [Wd, Fence.wide] at hh, ?_⟩
    refine CallsIn.mono this ?_
    intro e w'' he
    rcases he with ⟨v, h', E', rfl, h2, h3, h4, h5⟩ | ⟨x, h', E', rfl, h2, h3, h4⟩
    · exact hK v h' E' w'' h5 h2 h3 ((ha.ext h3).put hd h4)
    · exact hP x h' E' w'' h4 h2 h3 (ha.ext h3)
  · exact this.elim

/-- A panic of a value without pointers. -/
theorem opStep_panic (hr : Rel P w0 E h w) (ha : ARel E h.next ntmps fr a) (ho : ops[i]? = some o) (hw : wantedI ops fr.tm o = true) {x : Operand} (hop : o.op = .panic x) {t : TypeId} {v : IV} (hx : evo fr.tm x = some (.iface t v))
    (hP : Qc (.panic [{ v := (IV.iface t v).den E, recovered := false }]) a w) : wpOpIn (Wd rd) 0 P ops Qc i Kc a w := by
  unfold wpOpIn
  rw [ho]
  simp only
  rw [wantedI_eq ha.f, hw]
  simp only [if_true]
  refine ⟨fun _ _ => trivial, ?_⟩
  have hnd : ∀ c, o.op ≠ .defer c := fun c e => by rw [hop] at e; cases e
  have e1 := evo_den ha.f hx
  have hex : (execOp a.eval o).run P w = .halt (.panic ((IV.iface t v).den E)) w := by
    simp only [execOp, hop, e1.1, IV.den, Instr.panic, goPanic]
    rfl
  rw [Oper.semAt_eq _ _ _ hnd, hex]
  exact hP

/-- A deferred call with one pointer. -/
theorem opStep_defer (hr : Rel P w0 E h w) (ha : ARel E h.next ntmps fr a) (ho : ops[i]? = some o) (hw : wantedI ops fr.tm o = true) (hd : ∀ k, o.dst = some k → k < ntmps) {c : Call} {f : FuncId} {x : Operand} {b : Nat}
    (hop : o.op = .defer c) (hc : c.callee = .value (.func f)) (hargs : c.args.toList = [x]) (hx : evo fr.tm x = some (.ptr b 0)) (hrd : rd = none)
    (hK : ∀ fr' a', fr' = ({ fr with marks := .call f b :: fr.marks } : Fr).put o.dst undefI → ARel E h.next ntmps fr' a' → Kc a' w) :
    wpOpIn (Wd rd) 0 P ops Qc i Kc a w := by
  subst hrd
  unfold wpOpIn
  rw [ho]
  simp only
  rw [wantedI_eq ha.f, hw]
  simp only [if_true]
  refine ⟨fun _ _ => trivial, ?_⟩
  have e1 := evo_den ha.f hx
  have hb : b < h.next := by simpa [IV.under] using e1.2
  have ha1 : c.args.map a.eval = #[.pointer (some ⟨E.ρ b, 0, none⟩)] := by
    apply Array.ext'
    simp [hargs, e1.1, IV.den]
  have hex : (Oper.semAt (Wd none).round a.eval o).run P w = .ok (.defer { target := .fn (.func f) #[], args := #[.pointer (some ⟨E.ρ b, 0, none⟩)] }) w := by
    obtain ⟨callee, args, argTypes⟩ := c
    simp only at hc hop ha1
    subst hc
    have : Oper.semAt (Wd none).round a.eval o = execOp a.eval o := rfl
    rw [this]
    simp only [execOp, hop, resolve, ha1, Act.eval, Deferred.ofValue, Sem.run_bind, Sem.run_pure, Result.andThen_ok]
    rfl
  rw [hex]
  refine hK _ _ rfl ?_
  have h1 : ARel E h.next ntmps { fr with marks := .call f b :: fr.marks } { a with defers := { target := .fn (.func f) #[], args := #[.pointer (some ⟨E.ρ b, 0, none⟩)] } :: a.defers } :=
    ⟨⟨ha.f.size, ha.f.val, ha.f.under⟩, by rw [ha.d]; rfl, fun m hm => by
      rcases List.mem_cons.1 hm with rfl | hm
      · exact hb
      · exact ha.u m hm⟩
  have := h1.put (v := undefI) hd (by simp [undefI, IV.under, underL])
  rw [den_undef] at this
  exact this
end

/-! ### The next entry of a map, whichever -/
def candI (b m since : Nat) (seen : List Nat) (last : Nat) (h : H) : Option (List (IV × H)) :=
  match h.get m with
  | some (.map es clock, _) => bif goneI es seen last then none else
    some ((if (oldI since (leftI seen es)).isEmpty then [(.tup [.bool false], h)] else []) ++
      (oldI since (leftI seen es) ++ newI since (leftI seen es)).map fun e => (.tup [.bool true, e.1, e.2.1], h.put b (.mapIter m since (seen ++ [e.2.2]) clock)))
  | _ => none

theorem choose_run (P : Program) {w0 : World} {E : Env} {h : H} {w : World} (hr : Rel P w0 E h w) (n : Nat) (hn : 0 < n) : ∃ i w1, i < n ∧ (choose (.mapNext n)).run P w = .ok i w1 ∧ Rel P w0 E h w1 := by
  by_cases h1 : n ≤ 1
  · exact ⟨0, w, hn, by simp [choose, Sem.run, Question.forced, h1], hr⟩
  · exact ⟨_, _, Nat.mod_lt _ hn, by simp [choose, Sem.run, Question.forced, h1, Question.cut]; exact ⟨rfl, rfl⟩, hr.drew _⟩

theorem cand_run {P : Program} {w0 : World} {E : Env} {h : H} {w : World} (hr : Rel P w0 E h w) {b m since last : Nat} {seen : List Nat} (hb : h.get b = some (.mapIter m since seen last, true)) {l : List (IV × H)}
    (hl : candI b m since seen last h = some l) (ty' : TypeId) :
    ∃ x ∈ l, ∃ w', (Instr.next (IV.den E (.ptr b 0)) false ty').run P w = .ok (x.1.den E) w' ∧ Rel P w0 E x.2 w' ∧ x.1.under x.2.next ∧ x.2.next = h.next := by
  unfold candI at hl
  split at hl
  case h_2 => cases hl
  rename_i es clock wr hm
  cases hg : goneI es seen last with
  | true => rw [hg] at hl; cases hl
  | false =>
    rw [hg] at hl
    simp only [cond_false, Option.some.injEq] at hl
    subst hl
    rw [nextM_run hr hb hm hg ty']
    have hold : ∀ e ∈ oldI since (leftI seen es) ++ newI since (leftI seen es), e ∈ es := fun e he => by
      rcases List.mem_append.1 he with he | he
      · exact (List.mem_filter.1 (List.mem_filter.1 he).1).1
      · exact (List.mem_filter.1 (List.mem_filter.1 he).1).1
    have hes := (hr.map hm).2
    generalize hO : oldI since (leftI seen es) = old at hold ⊢
    generalize hN : newI since (leftI seen es) = new at hold ⊢
    have hin : ∀ e ∈ old ++ new, ∀ w1, Rel P w0 E h w1 → ∃ x ∈ (if old.isEmpty then [((.tup [.bool false] : IV), h)] else []) ++ (old ++ new).map fun e => ((.tup [.bool true, e.1, e.2.1] : IV), h.put b (.mapIter m since (seen ++ [e.2.2]) clock)),
        ∃ w', Sem.run P (do
          setObj (E.ρ b) (.mapIter (some (E.ρ m)) since (seen.toArray.push (entryDen E e).born) clock)
          pure (.tuple #[.bool true, (entryDen E e).key, (entryDen E e).val])) w1 = .ok (x.1.den E) w' ∧ Rel P w0 E x.2 w' ∧ x.1.under x.2.next ∧ x.2.next = h.next := by
      intro e he w1 hr1
      have ho : w1.heap[E.ρ b]? = some (.mapIter (some (E.ρ m)) since seen.toArray last) := ((hr1.obj _ _ _ hb).1).1
      have hset : ∀ o : Obj, (setObj (E.ρ b) o).run P w1 = .ok () (World.putObj w1 (E.ρ b) o) := fun o => by
        simp [setObj, Sem.run, ho, World.putObj]
      refine ⟨_, List.mem_append_right _ (List.mem_map.2 ⟨e, he, rfl⟩), World.putObj w1 (E.ρ b) (.mapIter (some (E.ρ m)) since (seen.toArray.push e.2.2) clock), ?_, hr1.put hb ⟨by simp, hr.dom _ _ hm⟩, ?_, rfl⟩
      · simp only [Sem.run_bind, hset, Result.andThen_ok, Sem.run_pure, entryDen, IV.den, denL]
      · simp [IV.under, underL, hes e (hold e he)]
    by_cases hE : old.isEmpty = true
    · simp only [hE, if_true]
      obtain ⟨i, w1, hi, hrun, hr1⟩ := choose_run P hr (#[none] ++ ((old ++ new).map fun e => some (entryDen E e)).toArray).size (by simp)
      simp only [Sem.run_bind, hrun, Result.andThen_ok]
      cases i with
      | zero =>
        refine ⟨_, List.mem_append_left _ (List.mem_singleton.2 rfl), w1, ?_, hr1, by simp [IV.under, underL], rfl⟩
        simp [IV.den, denL]
      | succ i =>
        have hi' : i < (old ++ new).length := by simp at hi ⊢; omega
        have hget : (#[none] ++ ((old ++ new).map fun e => some (entryDen E e)).toArray)[i + 1]? = some (some (entryDen E (old ++ new)[i])) := by
          rw [Array.getElem?_append_right (by simp)]
          simp only [List.size_toArray, List.getElem?_toArray, List.getElem?_map]
          have : i + 1 - [(none : Option MapEntry)].length = i := by simp
          rw [this, List.getElem?_eq_getElem hi']
          rfl
        rw [hget]
        have := hin _ (List.getElem_mem hi') w1 hr1
        rw [if_pos hE] at this
        exact this
    · simp only [hE, if_false, Bool.false_eq_true]
      have hne : 0 < (old ++ new).length := by cases old <;> simp at hE ⊢
      obtain ⟨i, w1, hi, hrun, hr1⟩ := choose_run P hr (#[] ++ ((old ++ new).map fun e => some (entryDen E e)).toArray).size (by simp at hne ⊢; omega)
      simp only [Sem.run_bind, hrun, Result.andThen_ok]
      have hi' : i < (old ++ new).length := by simp at hi ⊢; omega
      have hget : (#[] ++ ((old ++ new).map fun e => some (entryDen E e)).toArray)[i]? = some (some (entryDen E (old ++ new)[i])) := by
        simp only [Array.empty_append, List.getElem?_toArray, List.getElem?_map]
        rw [List.getElem?_eq_getElem hi']
        rfl
      rw [hget]
      have := hin _ (List.getElem_mem hi') w1 hr1
      rw [if_neg hE] at this
      exact this

section
variable {P : Program} {T : Tr Ty} (hT : TabOK P T) {w0 : World} {E : Env} {h : H} {w : World} {ntmps : Nat} {fr : Fr} {a : Act} {ops : Array Oper} {rd : Option Nat}
  {Qc : Exit → Act → World → Prop} {i : Nat} {Kc : Act → World → Prop} {o : Oper}

theorem opStep_next (hr : Rel P w0 E h w) (ha : ARel E h.next ntmps fr a) (ho : ops[i]? = some o) (hw : wantedI ops fr.tm o = true) (hd : ∀ k, o.dst = some k → k < ntmps) {it : Operand} {b m since last : Nat} {seen : List Nat}
    (hop : o.op = .next it false) (hit : evo fr.tm it = some (.ptr b 0)) (hb : h.get b = some (.mapIter m since seen last, true)) {l : List (IV × H)} (hl : candI b m since seen last h = some l)
    (hK : ∀ x ∈ l, ∀ w', Rel P w0 E x.2 w' → Step E h E x.2 → ARel E x.2.next ntmps (fr.put o.dst x.1) (a.put o.dst (x.1.den E)) → Kc (a.put o.dst (x.1.den E)) w') :
    wpOpIn (Wd rd) 0 P ops Qc i Kc a w := by
  unfold wpOpIn
  rw [ho]
  simp only
  rw [wantedI_eq ha.f, hw]
  simp only [if_true]
  refine ⟨fun _ _ => trivial, ?_⟩
  have hnd : ∀ c, o.op ≠ .defer c := fun c e => by rw [hop] at e; cases e
  have e1 := evo_den ha.f hit
  obtain ⟨x, hx, w', h1, h2, h3, h4⟩ := cand_run hr hb hl o.type
  have hex : (execOp a.eval o).run P w = .ok (.value (x.1.den E)) w' := by
    simp only [execOp, hop, e1.1, Sem.run_bind, h1, Result.andThen_ok, Sem.run_pure]
  rw [Oper.semAt_eq _ _ _ hnd, hex]
  have hs : Step E h E x.2 := ⟨Ext.refl _ _, by omega⟩
  exact hK x hx w' h2 hs ((ha.ext hs).put hd h3)
end

/-! ### A region's operations, all ways out -/
def EvO (P : Program) (rd : Option Nat) (ntmps : Nat) (ops : Array Oper) (l : List Nat) (Q : Out → Fr → H → Prop) (fr : Fr) (h : H) : Prop :=
  ∀ w0 E w a, Rel P w0 E h w → (∀ l, rd = some l → l < h.next) → ARel E h.next ntmps fr a → wpOpsIn (Wd (rd.map E.ρ)) 0 P ops (Post P w0 E h ntmps Q) l a w

section
variable {P : Program} {T : Tr Ty} (hT : TabOK P T) {rd : Option Nat} {ntmps : Nat} {Q : Out → Fr → H → Prop} {fr : Fr} {h : H} {ops : Array Oper} {i : Nat} {l : List Nat} {o : Oper}

theorem EvO.nil (hk : Q .normal fr h) : EvO P rd ntmps ops [] Q fr h := fun _ _ _ _ hr _ ha => Post.mk hr ha .normal hk

include hT in
theorem EvO.op (ho : ops[i]? = some o) (hw : wantedI ops fr.tm o = true) (hd : ∀ k, o.dst = some k → k < ntmps) {v : IV} {h' : H}
    (hf : iop T fr.tm h o.op = some (v, h')) (hk : EvO P rd ntmps ops l Q (fr.put o.dst v) h') : EvO P rd ntmps ops (i :: l) Q fr h := by
  intro w0 E w a hr hrd ha
  rw [wpOpsIn_cons]
  refine opStep_iop hT hr ha ho hw hd hf fun E' w' hr' hs ha' => ?_
  obtain ⟨r1, r2⟩ := rd_ext hrd hs
  have := hk w0 E' w' _ hr' r2 ha'
  rw [r1] at this
  exact wpOpsIn_post hs this

theorem EvO.skip (ho : ops[i]? = some o) (hw : wantedI ops fr.tm o = false) (hd : ∀ k, o.dst = some k → k < ntmps)
    (hk : EvO P rd ntmps ops l Q (fr.put o.dst undefI) h) : EvO P rd ntmps ops (i :: l) Q fr h := by
  intro w0 E w a hr hrd ha
  rw [wpOpsIn_cons]
  refine opStep_skip ha ho hw ?_
  have := ha.put (v := undefI) hd (by simp [undefI, IV.under, underL])
  rw [den_undef] at this
  exact hk w0 E w _ hr hrd this

theorem EvO.call (ho : ops[i]? = some o) (hw : wantedI ops fr.tm o = true) (hd : ∀ k, o.dst = some k → k < ntmps) {c : Call} {fo : Operand}
    (hop : o.op = .call c) (hc : c.callee = .value fo) {fv : IV} {vs : List IV} (hfv : evo fr.tm fo = some fv) (hvs : evos fr.tm c.args.toList = some vs)
    (hcl : Cl P fv vs h fun v h' => EvO P rd ntmps ops l Q (fr.put o.dst v) h') : EvO P rd ntmps ops (i :: l) Q fr h := by
  intro w0 E w a hr hrd ha
  rw [wpOpsIn_cons]
  refine opStep_call hr ha ho hw hd hop hc hfv hvs hcl fun v h' E' w' hk hr' hs ha' => ?_
  obtain ⟨r1, r2⟩ := rd_ext hrd hs
  have := hk w0 E' w' _ hr' r2 ha'
  rw [r1] at this
  exact wpOpsIn_post hs this

theorem EvO.callX (ho : ops[i]? = some o) (hw : wantedI ops fr.tm o = true) (hd : ∀ k, o.dst = some k → k < ntmps) {c : Call} {fo : Operand}
    (hop : o.op = .call c) (hc : c.callee = .value fo) {fv : IV} {vs : List IV} (hfv : evo fr.tm fo = some fv) (hvs : evos fr.tm c.args.toList = some vs)
    (hcl : ClX P fv vs h (fun v h' => EvO P rd ntmps ops l Q (fr.put o.dst v) h') fun x h' => Q (.panic x) fr h') : EvO P rd ntmps ops (i :: l) Q fr h := by
  intro w0 E w a hr hrd ha
  rw [wpOpsIn_cons]
  refine opStep_callX hr ha ho hw hd hop hc hfv hvs hcl (fun v h' E' w' hk hr' hs ha' => ?_) fun x h' E' w' hq hr' hs ha' => ?_
  · obtain ⟨r1, r2⟩ := rd_ext hrd hs
    have := hk w0 E' w' _ hr' r2 ha'
    rw [r1] at this
    exact wpOpsIn_post hs this
  · exact ⟨.panic x, fr, h', E', rfl, hr', hs, ha', hq⟩

theorem EvO.panic (ho : ops[i]? = some o) (hw : wantedI ops fr.tm o = true) {x : Operand} (hop : o.op = .panic x) {t : TypeId} {v : IV} {u : Value} (hx : evo fr.tm x = some (.iface t v)) (hu : ∀ E, (IV.iface t v).den E = u)
    (hq : Q (.panic u) fr h) : EvO P rd ntmps ops (i :: l) Q fr h := by
  intro w0 E w a hr hrd ha
  rw [wpOpsIn_cons]
  refine opStep_panic hr ha ho hw hop hx ?_
  rw [hu]
  exact Post.mk hr ha (.panic u) hq

theorem EvO.defer (ho : ops[i]? = some o) (hw : wantedI ops fr.tm o = true) (hd : ∀ k, o.dst = some k → k < ntmps) {c : Call} {f : FuncId} {x : Operand} {b : Nat}
    (hop : o.op = .defer c) (hc : c.callee = .value (.func f)) (hargs : c.args.toList = [x]) (hx : evo fr.tm x = some (.ptr b 0))
    (hk : EvO P none ntmps ops l Q (({ fr with marks := .call f b :: fr.marks } : Fr).put o.dst undefI) h) : EvO P none ntmps ops (i :: l) Q fr h := by
  intro w0 E w a hr hrd ha
  rw [wpOpsIn_cons]
  refine opStep_defer (rd := none) hr ha ho hw hd hop hc hargs hx rfl fun fr' a' he ha' => ?_
  subst he
  exact hk w0 E w a' hr hrd ha'

theorem EvO.next (ho : ops[i]? = some o) (hw : wantedI ops fr.tm o = true) (hd : ∀ k, o.dst = some k → k < ntmps) {it : Operand} {b m since last : Nat} {seen : List Nat}
    (hop : o.op = .next it false) (hit : evo fr.tm it = some (.ptr b 0)) (hb : h.get b = some (.mapIter m since seen last, true)) {c : List (IV × H)} (hl : candI b m since seen last h = some c)
    (hk : ∀ x ∈ c, EvO P rd ntmps ops l Q (fr.put o.dst x.1) x.2) : EvO P rd ntmps ops (i :: l) Q fr h := by
  intro w0 E w a hr hrd ha
  rw [wpOpsIn_cons]
  refine opStep_next hr ha ho hw hd hop hit hb hl fun x hx w' hr' hs ha' => ?_
  obtain ⟨r1, r2⟩ := rd_ext hrd hs
  have := hk x hx w0 E w' _ hr' r2 ha'
  exact wpOpsIn_post hs this

theorem Ev.regionO {id : Nat} (ho : EvO P rd ntmps ops (List.range ops.size) Q fr h) : Ev P rd ntmps (.region id ops false) Q fr h :=
  fun w0 E w a hr hrd ha => wpIn_region (ho w0 E w a hr hrd ha)

/-- A function's call from its body: it may panic, with nothing deferred. -/
def BodyX (T : Tr Ty) (rs : List ResultVar) (Q : IV → H → Prop) (R : Value → H → Prop) (o : Out) (fr : Fr) (h' : H) : Prop :=
  BodyQ T rs Q o fr h' ∨ ∃ x, o = .panic x ∧ fr.marks = [] ∧ R x h'

include hT in
theorem leaves_marksX {fn : Func} {ntmps : Nat} {tm : Tm} {a : Act} {Q : IV → H → Prop} {R : Value → H → Prop} {h0 : H} {w0 : World} {E E0 : Env} : ∀ (ms : List Mk) (h h'' : H) (w : World), Rel P w0 E h w → Step E0 h0 E h → FRel E h.next ntmps tm a → (∀ m ∈ ms, m.blk < h.next) →
    takeMarks ms h = some h'' → ∀ vs, resI T h'' tm fn.results.toList = some vs → Q (resV vs) h'' →
    LeavesInM Fence.wide 0 P fn a.tmps (EndsX P w0 E0 h0 Q R) (ms.map (Mk.den E)) .returning w := by
  intro ms
  induction ms with
  | nil =>
    intro h h'' w hr hs f _ ht vs hv hq
    cases ht
    have := results_run hT hr f hv
    exact ⟨_, this.1, .inl ⟨_, _, _, rfl, hr, hs, this.2, hq⟩⟩
  | cons m ms ih =>
    intro h h'' w hr hs f hm ht vs hv hq
    cases m with
    | call _ _ => cases ht
    | col r =>
    simp only [takeMarks] at ht
    split at ht
    · next hg =>
      obtain ⟨w', h1, h2⟩ := takeMark_run hr hg
      exact ⟨by simp, .inl ⟨_, w', rfl, h1, ih (h.kill r) h'' w' h2 ⟨hs.ext, hs.le⟩ f (fun r' hr' => hm r' (by simp [hr'])) ht vs hv hq⟩⟩
    · cases ht

include hT in
theorem SpX.of_ev {f : FuncId} {fn : Func} {c : Code} {args : List IV} {Q : IV → H → Prop} {R : Value → H → Prop} (hf : P.funcs[f]? = some fn) (hb : fn.body = some c) (hn : args.length ≤ fn.ntmps)
    (he : Ev P none fn.ntmps c (BodyX T fn.results.toList Q R) ⟨mkTm args 0 .leaf, []⟩ h) : SpX P f args h Q R := by
  intro w0 E w hr hu
  refine callsIn_of_wp_marks hf hb trivial ?_ rfl
  have := he w0 E w _ hr (fun l hl => by cases hl) (frame_mk hu hn)
  refine wpIn_mono this ?_
  rintro e a' w' ⟨o, fr', h', E', rfl, hr', hs, ha', hx⟩
  rcases hx with ⟨ho, h'', vs, ht, hv, hq⟩ | ⟨x, rfl, hm, hq⟩
  · have := leaves_marksX hT (E0 := E) (h0 := h) (Q := Q) (R := R) (fn := fn) fr'.marks h' h'' w' hr' hs ha'.f ha'.u ht vs hv hq
    rw [← ha'.d] at this
    rcases ho with rfl | rfl <;> exact this
  · have hd : a'.defers = [] := by rw [ha'.d, hm]; rfl
    show LeavesInM Fence.wide 0 P fn a'.tmps _ a'.defers (.panicking [{ v := x, recovered := false }]) w'
    rw [hd]
    exact .inr ⟨x, h', E', rfl, hr', hs, hq⟩
end
end Sx
