/- Frames, calls, regions and statements of the ideal machine. -/
import Derived.Test.YtjeakifmlmmpaaaGreatDoorSxIop
import Derived.RangeFuncLeaves
import Derived.Shelf.Abstract
import Derived.OrdersIn
import Derived.TacticsIn
namespace Sx
open Go Go.RowKit
set_option linter.unusedSimpArgs false

abbrev Wd (r : Option Nat) : Fence := { Fence.wide with round := r }

theorem room_Wd (r : Option Nat) (n : Nat) : (Wd r).room n := fun _ h => by simp [Wd, Fence.wide] at h

inductive Out
  | normal
  | exit (id : Nat)
  | goto (l : Nat)
  | ret
  | panic (v : Value)

def Out.ex : Out → Exit
  | .normal => .normal
  | .exit id => .exit id
  | .goto l => .goto l
  | .ret => .ret
  | .panic v => .panic [{ v := v, recovered := false }]

/-- What a frame owes at its end: a block of collected calls, or a deferred call with a pointer. -/
inductive Mk
  | col (r : Nat)
  | call (f : FuncId) (b : Nat)

def Mk.blk : Mk → Nat
  | .col r => r
  | .call _ b => b
def Mk.den (E : Env) : Mk → Deferred
  | .col r => { target := .collected (E.ρ r), args := #[] }
  | .call f b => { target := .fn (.func f) #[], args := #[.pointer (some ⟨E.ρ b, 0, none⟩)] }

structure Fr where
  tm : Tm
  marks : List Mk

def Fr.put (fr : Fr) (d : Option Tmp) (v : IV) : Fr :=
  match d with
  | some d => { fr with tm := fr.tm.set d (some v) }
  | none => fr

structure ARel (E : Env) (n ntmps : Nat) (fr : Fr) (a : Act) : Prop where
  f : FRel E n ntmps fr.tm a
  d : a.defers = fr.marks.map (Mk.den E)
  u : ∀ m ∈ fr.marks, m.blk < n

theorem tmp_set (t : Tm) (i j : Nat) (v : IV) : Tr.tmp (t.set i (some v)) j = if i = j then v else t.tmp j := by
  unfold Tr.tmp
  rw [Tr.get_set]
  by_cases h : i = j <;> simp [h]

theorem FRel.put {E : Env} {n ntmps : Nat} {tm : Tm} {a : Act} (f : FRel E n ntmps tm a) {d : Nat} {v : IV} (hd : d < ntmps) (hv : v.under n) :
    FRel E n ntmps (tm.set d (some v)) (a.put (some d) (v.den E)) := by
  refine ⟨by simp [Act.put, f.size], fun i => ?_, fun i => ?_⟩
  · rw [tmp_set]
    simp only [Act.put, Array.getD_eq_getD_getElem?, Array.getElem?_setIfInBounds, f.size]
    by_cases h : d = i
    · subst h; simp [hd]
    · have := f.val i
      rw [Array.getD_eq_getD_getElem?] at this
      simp [h, this]
  · rw [tmp_set]
    split
    · exact hv
    · exact f.under i

theorem ARel.put {E : Env} {n ntmps : Nat} {fr : Fr} {a : Act} (f : ARel E n ntmps fr a) {d : Option Tmp} {v : IV} (hd : ∀ k, d = some k → k < ntmps) (hv : v.under n) :
    ARel E n ntmps (fr.put d v) (a.put d (v.den E)) := by
  cases d with
  | none => exact f
  | some d => exact ⟨f.f.put (hd d rfl) hv, f.d, f.u⟩

theorem ARel.ext {E E' : Env} {h h' : H} {ntmps : Nat} {fr : Fr} {a : Act} (f : ARel E h.next ntmps fr a) (s : Step E h E' h') : ARel E' h'.next ntmps fr a := by
  refine ⟨f.f.ext s, ?_, fun r hr => Nat.lt_of_lt_of_le (f.u r hr) s.le⟩
  rw [f.d]
  refine List.map_congr_left fun m hm => ?_
  have := (s.ext m.blk (f.u m hm)).1
  cases m <;> simp only [Mk.blk] at this <;> simp [Mk.den, this]

/-! ### Calls -/
/-- What a call of Go function f does: it returns v, in heap h', as Q says. -/
def Sp (P : Program) (f : FuncId) (args : List IV) (h : H) (Q : IV → H → Prop) : Prop :=
  ∀ w0 E w, Rel P w0 E h w → underL h.next args →
    CallsIn Fence.wide 0 P f (denL E args).toArray w fun e w' => ∃ v h' E', e = .returned (v.den E') ∧ Rel P w0 E' h' w' ∧ Step E h E' h' ∧ v.under h'.next ∧ Q v h'

theorem Sp.mono {P : Program} {f : FuncId} {args : List IV} {h : H} {Q Q' : IV → H → Prop} (hs : Sp P f args h Q) (hq : ∀ v h', Q v h' → Q' v h') : Sp P f args h Q' :=
  fun w0 E w hr hu => (hs w0 E w hr hu).mono fun _ _ ⟨v, h', E', h1, h2, h3, h4, h5⟩ => ⟨v, h', E', h1, h2, h3, h4, hq _ _ h5⟩

def UponV (P : Program) (r : Result Next) (R : Value → World → Prop) : Prop :=
  match r with
  | .ok (.enter f args) w' => CallsIn Fence.wide 0 P f args w' fun | .returned v, w'' => R v w'' | _, _ => False
  | .ok (.value v) w' => R v w'
  | .ok (.round l f tmps assign body) w' => RoundIn Fence.wide 0 P l f tmps assign body w' fun | .returned v, w'' => R v w'' | _, _ => False
  | _ => False

/-- What a call of a function value does. -/
def Cl (P : Program) (fv : IV) (args : List IV) (h : H) (Q : IV → H → Prop) : Prop :=
  ∀ w0 E w, Rel P w0 E h w → fv.under h.next → underL h.next args →
    UponV P ((do let d ← Deferred.ofValue (fv.den E) (denL E args).toArray; invoke d.target d.args : Sem Next).run P w) fun v' w' =>
      ∃ v h' E', v' = v.den E' ∧ Rel P w0 E' h' w' ∧ Step E h E' h' ∧ v.under h'.next ∧ Q v h'

theorem Cl.of_sp {P : Program} {f : FuncId} {first cap args : List IV} {h : H} {Q : IV → H → Prop} (hf : Go.Proofs.Enters P f) (hs : Sp P f (first ++ args ++ cap) h Q) : Cl P (.func (.func f) first cap) args h Q := by
  intro w0 E w hr hfu hu
  simp only [IV.under, IFn.under] at hfu
  have hrun : ((do let d ← Deferred.ofValue (IV.den E (.func (.func f) first cap)) (denL E args).toArray; invoke d.target d.args : Sem Next).run P w) = .ok (.enter f (denL E (first ++ args ++ cap)).toArray) w := by
    simp only [IV.den, IFn.den, Deferred.ofValue, Sem.run_bind, Sem.run_pure, Result.andThen_ok, invoke]
    have := hf (((denL E first).toArray ++ (denL E args).toArray) ++ (denL E cap).toArray) w
    rw [this]
    congr 2
    apply Array.ext'
    simp [denL_append]
  rw [hrun]
  refine (hs w0 E w hr (underL_append (underL_append hfu.2.1 hu) hfu.2.2)).mono ?_
  rintro e w' ⟨v, h', E', rfl, h2, h3, h4, h5⟩
  exact ⟨v, h', E', rfl, h2, h3, h4, h5⟩

/-! ### Operations -/
def wantedI (ops : Array Oper) (tm : Tm) (o : Oper) : Bool :=
  match o.guard with
  | none => true
  | some (j, want) => match (ops[j]?).bind (·.dst) with
    | some d => match tm.tmp d with
      | .bool b => b == want
      | _ => false
    | none => false

theorem wantedI_eq {E : Env} {n ntmps : Nat} {tm : Tm} {a : Act} (f : FRel E n ntmps tm a) (ops : Array Oper) (o : Oper) :
    Region.wanted o (yielded ops a.tmps) = wantedI ops tm o := by
  unfold Region.wanted wantedI
  cases hg : o.guard with
  | none => rfl
  | some jw =>
    obtain ⟨j, want⟩ := jw
    simp only
    unfold yielded
    cases hd : (ops[j]?).bind (·.dst) with
    | none => simp
    | some d =>
      simp only [Option.bind_some]
      have hv := f.val d
      rw [Array.getD_eq_getD_getElem?] at hv
      cases ht : a.tmps[d]? with
      | none =>
        rw [ht] at hv
        simp only [Option.getD_none] at hv
        cases hx : tm.tmp d <;> rw [hx] at hv <;> simp [IV.den, undef] at hv ⊢
      | some x =>
        rw [ht] at hv
        simp only [Option.getD_some] at hv
        subst hv
        cases hx : tm.tmp d <;> simp [IV.den]

section
variable {P : Program} {T : Tr Ty} (hT : TabOK P T) {w0 : World} {E : Env} {h : H} {w : World} {ntmps : Nat} {fr : Fr} {a : Act} {ops : Array Oper} {rd : Option Nat}
  {Qc : Exit → Act → World → Prop} {i : Nat} {Kc : Act → World → Prop} {o : Oper}

include hT in
theorem opStep_iop (hr : Rel P w0 E h w) (ha : ARel E h.next ntmps fr a) (ho : ops[i]? = some o) (hw : wantedI ops fr.tm o = true) (hd : ∀ k, o.dst = some k → k < ntmps) {v : IV} {h' : H}
    (hf : iop T fr.tm h o.op = some (v, h')) (hK : ∀ E' w', Rel P w0 E' h' w' → Step E h E' h' → ARel E' h'.next ntmps (fr.put o.dst v) (a.put o.dst (v.den E')) → Kc (a.put o.dst (v.den E')) w') :
    wpOpIn (Wd rd) 0 P ops Qc i Kc a w := by
  unfold wpOpIn
  rw [ho]
  simp only
  rw [wantedI_eq ha.f, hw]
  simp only [if_true]
  refine ⟨fun _ _ => trivial, ?_⟩
  obtain ⟨E', w', nx, h1, h2, h3, h4, h5⟩ := iop_run hT hr ha.f o hf
  have hnd : ∀ c, o.op ≠ .defer c := fun c e => by rw [e] at hf; simp [iop] at hf
  rw [Oper.semAt_eq _ _ _ hnd, h1]
  have hput := (ha.ext h4).put hd h5
  cases nx <;> simp only [NextIs] at h2
  · subst h2; exact hK E' w' h3 h4 hput
  · subst h2
    have := hK E' w' h3 h4 hput
    rw [den_undef] at this
    exact this

theorem opStep_skip (ha : ARel E h.next ntmps fr a) (ho : ops[i]? = some o) (hw : wantedI ops fr.tm o = false) (hK : Kc (a.put o.dst undef) w) :
    wpOpIn (Wd rd) 0 P ops Qc i Kc a w := by
  unfold wpOpIn
  rw [ho]
  simp only
  rw [wantedI_eq ha.f, hw]
  simp only [Bool.false_eq_true, if_false]
  exact ⟨fun _ _ => trivial, hK⟩

theorem opStep_call (hr : Rel P w0 E h w) (ha : ARel E h.next ntmps fr a) (ho : ops[i]? = some o) (hw : wantedI ops fr.tm o = true) (hd : ∀ k, o.dst = some k → k < ntmps) {c : Call} {fo : Operand}
    (hop : o.op = .call c) (hc : c.callee = .value fo) {fv : IV} {vs : List IV} (hfv : evo fr.tm fo = some fv) (hvs : evos fr.tm c.args.toList = some vs) {Q : IV → H → Prop} (hcl : Cl P fv vs h Q)
    (hK : ∀ v h' E' w', Q v h' → Rel P w0 E' h' w' → Step E h E' h' → ARel E' h'.next ntmps (fr.put o.dst v) (a.put o.dst (v.den E')) → Kc (a.put o.dst (v.den E')) w') :
    wpOpIn (Wd rd) 0 P ops Qc i Kc a w := by
  unfold wpOpIn
  rw [ho]
  simp only
  rw [wantedI_eq ha.f, hw]
  simp only [if_true]
  refine ⟨fun _ _ => trivial, ?_⟩
  have hnd : ∀ c, o.op ≠ .defer c := fun c e => by rw [hop] at e; cases e
  have e1 := evo_den ha.f hfv
  have e2 := evos_den ha.f hvs
  have a1 : c.args.map a.eval = (denL E vs).toArray := by apply Array.ext'; simp [e2.1]
  have hex : execOp a.eval o = (do let d ← Deferred.ofValue (fv.den E) (denL E vs).toArray; invoke d.target d.args : Sem Next) := by
    obtain ⟨callee, args, argTypes⟩ := c
    simp only at hc hop a1
    subst hc
    simp only [execOp, hop, resolve, a1, e1.1]
  rw [Oper.semAt_eq _ _ _ hnd, hex]
  have := hcl w0 E w hr e1.2 e2.2
  unfold UponV at this
  split at this
  · next f args w' hrun =>
    rw [hrun]
    refine ⟨fun hh => by simp [Wd, Fence.wide] at hh, ?_⟩
    refine CallsIn.mono this ?_
    intro e w'' he
    cases e with
    | returned v' =>
      obtain ⟨v, h', E', rfl, h2, h3, h4, h5⟩ := he
      exact hK v h' E' w'' h5 h2 h3 ((ha.ext h3).put hd h4)
    | panicked _ => exact he.elim
    | outgrown => exact he.elim
  · next v' w' hrun =>
    rw [hrun]
    obtain ⟨v, h', E', rfl, h2, h3, h4, h5⟩ := this
    exact hK v h' E' w' h5 h2 h3 ((ha.ext h3).put hd h4)
  · next l f tmps assign body w' hrun =>
    rw [hrun]
    refine ⟨fun hh => by simp [Wd, Fence.wide] at hh, ?_⟩
    refine RoundIn.mono this ?_
    intro e w'' he
    cases e with
    | returned v' =>
      obtain ⟨v, h', E', rfl, h2, h3, h4, h5⟩ := he
      exact hK v h' E' w'' h5 h2 h3 ((ha.ext h3).put hd h4)
    | panicked _ => exact he.elim
    | outgrown => exact he.elim
  · exact this.elim
end

/-! ### Statements -/
def Post (P : Program) (w0 : World) (E : Env) (h : H) (ntmps : Nat) (Q : Out → Fr → H → Prop) : Exit → Act → World → Prop :=
  fun e a' w' => ∃ o fr' h' E', e = o.ex ∧ Rel P w0 E' h' w' ∧ Step E h E' h' ∧ ARel E' h'.next ntmps fr' a' ∧ Q o fr' h'

/-- The statement c, begun in (fr, h), ends as Q says. -/
def Ev (P : Program) (rd : Option Nat) (ntmps : Nat) (c : Code) (Q : Out → Fr → H → Prop) (fr : Fr) (h : H) : Prop :=
  ∀ w0 E w a, Rel P w0 E h w → (∀ l, rd = some l → l < h.next) → ARel E h.next ntmps fr a → c.wpIn (Wd (rd.map E.ρ)) 0 P (Post P w0 E h ntmps Q) a w

/-- The operations of a region, in this order. -/
def EvOps (P : Program) (rd : Option Nat) (ntmps : Nat) (ops : Array Oper) (l : List Nat) (K : Fr → H → Prop) (fr : Fr) (h : H) : Prop :=
  ∀ w0 E w a, Rel P w0 E h w → (∀ l, rd = some l → l < h.next) → ARel E h.next ntmps fr a →
    wpOpsIn (Wd (rd.map E.ρ)) 0 P ops (Post P w0 E h ntmps fun o fr' h' => o = .normal ∧ K fr' h') l a w

section
variable {P : Program} {T : Tr Ty} (hT : TabOK P T) {rd : Option Nat} {ntmps : Nat} {Q : Out → Fr → H → Prop} {fr : Fr} {h : H}

theorem rd_ext {E E' : Env} {h h' : H} (hrd : ∀ l, rd = some l → l < h.next) (s : Step E h E' h') : rd.map E'.ρ = rd.map E.ρ ∧ ∀ l, rd = some l → l < h'.next := by
  cases rd with
  | none => exact ⟨rfl, fun l hl => by cases hl⟩
  | some l =>
    have := hrd l rfl
    exact ⟨by simp [(s.ext l this).1], fun l' hl' => by cases hl'; exact Nat.lt_of_lt_of_le this s.le⟩

theorem Post.step {w0 : World} {E E1 : Env} {h h1 : H} (s : Step E h E1 h1) {e : Exit} {a : Act} {w : World} (hp : Post P w0 E1 h1 ntmps Q e a w) : Post P w0 E h ntmps Q e a w := by
  obtain ⟨o, fr', h', E', r1, r2, r3, r4, r5⟩ := hp
  exact ⟨o, fr', h', E', r1, r2, s.trans r3, r4, r5⟩

theorem wpOpsIn_post {w0 : World} {E E1 : Env} {h h1 : H} (s : Step E h E1 h1) {F : Fence} {ops : Array Oper} : ∀ {l : List Nat} {a : Act} {w : World},
    wpOpsIn F 0 P ops (Post P w0 E1 h1 ntmps Q) l a w → wpOpsIn F 0 P ops (Post P w0 E h ntmps Q) l a w := by
  intro l
  induction l with
  | nil => intro a w hp; exact hp.step s
  | cons i l ih =>
    intro a w hp
    rw [wpOpsIn_cons] at hp ⊢
    have nog : ∀ a w, Post P w0 E1 h1 ntmps Q .outgrown a w → False := fun a w ⟨o, _, _, _, e, _⟩ => by cases o <;> cases e
    unfold wpOpIn at hp ⊢
    split
    · next ho => rw [ho] at hp; exact ih hp
    · next o ho =>
      rw [ho] at hp
      simp only at hp
      split
      · next hw =>
        rw [hw] at hp
        simp only [if_true] at hp
        refine ⟨hp.1, ?_⟩
        have hp2 := hp.2
        generalize (o.semAt F.round a.eval).run P w = r at hp2 ⊢
        cases r with
        | ok nx w' =>
          cases nx <;> simp only [Oper.uponIn] at hp2 ⊢ <;> first
            | exact ih hp2
            | exact ⟨hp2.1, CallsIn.mono hp2.2 fun e w'' he => by
                cases e with
                | returned v => exact ih he
                | panicked c => exact he.step s
                | outgrown => obtain ⟨a0, w1, he⟩ := he; exact (nog _ _ he).elim⟩
            | exact ⟨hp2.1, RowsIn.mono hp2.2 fun v w'' he => ih he⟩
            | exact ⟨hp2.1, RoundIn.mono hp2.2 fun e w'' he => by
                cases e with
                | returned v => exact ih he
                | panicked c => exact he.step s
                | outgrown => obtain ⟨a0, w1, he⟩ := he; exact (nog _ _ he).elim⟩
            | exact hp2
        | halt hh w' => cases hh <;> simp only [Oper.uponIn] at hp2 ⊢ <;> first | exact hp2.step s | exact hp2
      · next hw =>
        have hw' : Region.wanted o (yielded ops a.tmps) = false := by simpa using hw
        rw [hw'] at hp
        simp only [Bool.false_eq_true, if_false] at hp
        exact ⟨hp.1, ih hp.2⟩

theorem EvOps.nil {ops : Array Oper} {K : Fr → H → Prop} (hk : K fr h) : EvOps P rd ntmps ops [] K fr h :=
  fun _ E _ _ hr _ ha => ⟨.normal, fr, h, E, rfl, hr, Step.refl _ _, ha, rfl, hk⟩

include hT in
theorem EvOps.op {ops : Array Oper} {K : Fr → H → Prop} {i : Nat} {l : List Nat} {o : Oper} (ho : ops[i]? = some o) (hw : wantedI ops fr.tm o = true) (hd : ∀ k, o.dst = some k → k < ntmps) {v : IV} {h' : H}
    (hf : iop T fr.tm h o.op = some (v, h')) (hk : EvOps P rd ntmps ops l K (fr.put o.dst v) h') : EvOps P rd ntmps ops (i :: l) K fr h := by
  intro w0 E w a hr hrd ha
  rw [wpOpsIn_cons]
  refine opStep_iop hT hr ha ho hw hd hf fun E' w' hr' hs ha' => ?_
  obtain ⟨r1, r2⟩ := rd_ext hrd hs
  have := hk w0 E' w' _ hr' r2 ha'
  rw [r1] at this
  exact wpOpsIn_post hs this

theorem EvOps.skip {ops : Array Oper} {K : Fr → H → Prop} {i : Nat} {l : List Nat} {o : Oper} (ho : ops[i]? = some o) (hw : wantedI ops fr.tm o = false) (hd : ∀ k, o.dst = some k → k < ntmps)
    (hk : EvOps P rd ntmps ops l K (fr.put o.dst undefI) h) : EvOps P rd ntmps ops (i :: l) K fr h := by
  intro w0 E w a hr hrd ha
  rw [wpOpsIn_cons]
  refine opStep_skip ha ho hw ?_
  have := ha.put (v := undefI) hd (by simp [undefI, IV.under, underL])
  rw [den_undef] at this
  exact hk w0 E w _ hr hrd this

theorem EvOps.call {ops : Array Oper} {K : Fr → H → Prop} {i : Nat} {l : List Nat} {o : Oper} (ho : ops[i]? = some o) (hw : wantedI ops fr.tm o = true) (hd : ∀ k, o.dst = some k → k < ntmps) {c : Call} {fo : Operand}
    (hop : o.op = .call c) (hc : c.callee = .value fo) {fv : IV} {vs : List IV} (hfv : evo fr.tm fo = some fv) (hvs : evos fr.tm c.args.toList = some vs)
    (hcl : Cl P fv vs h fun v h' => EvOps P rd ntmps ops l K (fr.put o.dst v) h') : EvOps P rd ntmps ops (i :: l) K fr h := by
  intro w0 E w a hr hrd ha
  rw [wpOpsIn_cons]
  refine opStep_call hr ha ho hw hd hop hc hfv hvs hcl fun v h' E' w' hk hr' hs ha' => ?_
  obtain ⟨r1, r2⟩ := rd_ext hrd hs
  have := hk w0 E' w' _ hr' r2 ha'
  rw [r1] at this
  exact wpOpsIn_post hs this

theorem Ev.mono {c : Code} {Q' : Out → Fr → H → Prop} (he : Ev P rd ntmps c Q fr h) (hq : ∀ o fr h, Q o fr h → Q' o fr h) : Ev P rd ntmps c Q' fr h :=
  fun w0 E w a hr hrd ha => wpIn_mono (he w0 E w a hr hrd ha) fun _ _ _ ⟨o, fr', h', E', r1, r2, r3, r4, r5⟩ => ⟨o, fr', h', E', r1, r2, r3, r4, hq _ _ _ r5⟩

theorem Post.mk {w0 : World} {E : Env} {w : World} {a : Act} (hr : Rel P w0 E h w) (ha : ARel E h.next ntmps fr a) (o : Out) (hq : Q o fr h) : Post P w0 E h ntmps Q o.ex a w :=
  ⟨o, fr, h, E, rfl, hr, Step.refl _ _, ha, hq⟩

theorem Ev.skip (hq : Q .normal fr h) : Ev P rd ntmps .skip Q fr h := fun _ _ _ _ hr _ ha => wpIn_skip (Post.mk hr ha .normal hq)
theorem Ev.label {l : Nat} (hq : Q .normal fr h) : Ev P rd ntmps (.label l) Q fr h := fun _ _ _ _ hr _ ha => wpIn_label (Post.mk hr ha .normal hq)
theorem Ev.exit {id : Nat} (hq : Q (.exit id) fr h) : Ev P rd ntmps (.exit id) Q fr h := fun _ _ _ _ hr _ ha => wpIn_exit (Post.mk hr ha (.exit id) hq)
theorem Ev.goto {l : Nat} (hq : Q (.goto l) fr h) : Ev P rd ntmps (.goto l) Q fr h := fun _ _ _ _ hr _ ha => wpIn_goto (Post.mk hr ha (.goto l) hq)
theorem Ev.ret (hq : Q .ret fr h) : Ev P rd ntmps .ret Q fr h := fun _ _ _ _ hr _ ha => wpIn_ret (Post.mk hr ha .ret hq)

def Out.next (K : Fr → H → Prop) (Q : Out → Fr → H → Prop) : Out → Fr → H → Prop
  | .normal, fr, h => K fr h
  | o, fr, h => Q o fr h

theorem Ev.seq {x y : Code} (hx : Ev P rd ntmps x (Out.next (fun fr' h' => Ev P rd ntmps y Q fr' h') Q) fr h) : Ev P rd ntmps (.seq x y) Q fr h := by
  intro w0 E w a hr hrd ha
  refine wpIn_seq (wpIn_mono (hx w0 E w a hr hrd ha) ?_)
  rintro e a' w' ⟨o, fr', h', E', rfl, hr', hs, ha', hq⟩
  cases o with
  | normal =>
    obtain ⟨r1, r2⟩ := rd_ext hrd hs
    have := hq w0 E' w' a' hr' r2 ha'
    rw [r1] at this
    exact wpIn_mono this fun e a w hp => hp.step hs
  | exit id => exact ⟨.exit id, fr', h', E', rfl, hr', hs, ha', hq⟩
  | goto l => exact ⟨.goto l, fr', h', E', rfl, hr', hs, ha', hq⟩
  | ret => exact ⟨.ret, fr', h', E', rfl, hr', hs, ha', hq⟩
  | panic v => exact ⟨.panic v, fr', h', E', rfl, hr', hs, ha', hq⟩

theorem Ev.cond {c : Operand} {x y : Code} {t : Bool} (hc : evo fr.tm c = some (.bool t)) (hx : Ev P rd ntmps (if t then x else y) Q fr h) : Ev P rd ntmps (.cond c x y) Q fr h :=
  fun w0 E w a hr hrd ha => wpIn_cond (evo_den ha.f hc).1 (hx w0 E w a hr hrd ha)

def Out.block (id : Nat) (Q : Out → Fr → H → Prop) : Out → Fr → H → Prop
  | .exit id', fr, h => if id' = id then Q .normal fr h else Q (.exit id') fr h
  | o, fr, h => Q o fr h

theorem Ev.block {id : Nat} {c : Code} (hc : Ev P rd ntmps c (Out.block id Q) fr h) : Ev P rd ntmps (.block id c) Q fr h := by
  intro w0 E w a hr hrd ha
  refine wpIn_block (wpIn_mono (hc w0 E w a hr hrd ha) ?_)
  rintro e a' w' ⟨o, fr', h', E', rfl, hr', hs, ha', hq⟩
  cases o with
  | normal => exact ⟨.normal, fr', h', E', rfl, hr', hs, ha', hq⟩
  | exit id' =>
    simp only [Out.ex, Exit.inBlock]
    simp only [Out.block] at hq
    split
    · next hid => rw [if_pos hid] at hq; exact ⟨.normal, fr', h', E', rfl, hr', hs, ha', hq⟩
    · next hid => rw [if_neg hid] at hq; exact ⟨.exit id', fr', h', E', rfl, hr', hs, ha', hq⟩
  | goto l => exact ⟨.goto l, fr', h', E', rfl, hr', hs, ha', hq⟩
  | ret => exact ⟨.ret, fr', h', E', rfl, hr', hs, ha', hq⟩
  | panic v => exact ⟨.panic v, fr', h', E', rfl, hr', hs, ha', hq⟩

theorem Ev.region {id : Nat} {ops : Array Oper} (ho : EvOps P rd ntmps ops (List.range ops.size) (Q .normal) fr h) : Ev P rd ntmps (.region id ops false) Q fr h := by
  intro w0 E w a hr hrd ha
  refine wpIn_mono (wpIn_region (ho w0 E w a hr hrd ha)) ?_
  rintro e a' w' ⟨o, fr', h', E', rfl, hr', hs, ha', rfl, hq⟩
  exact ⟨.normal, fr', h', E', rfl, hr', hs, ha', hq⟩

/-! ### Loops -/
/-- At the head of a loop's round. -/
def EvLoop (P : Program) (rd : Option Nat) (ntmps : Nat) (c : Code) (Q : Out → Fr → H → Prop) (fr : Fr) (h : H) : Prop :=
  ∀ w0 E w a, Rel P w0 E h w → (∀ l, rd = some l → l < h.next) → ARel E h.next ntmps fr a →
    ∀ (b : Frame) (k : List Item) (cs : List Frame), b.roundOf = rd.map E.ρ →
      ∃ e a' w', Post P w0 E h ntmps Q e a' w' ∧ ArrivesIn (Machine.fenced P (Wd (rd.map E.ρ))) P (lone (b.atR a (.code c :: .inLoop c :: k)) cs w) b k cs e a' w'

theorem Ev.loop {c : Code} (hl : EvLoop P rd ntmps c Q fr h) : Ev P rd ntmps (.loop c) Q fr h := by
  intro w0 E w a hr hrd ha b k cs hro hb hroom
  obtain ⟨e, a', w', hp, harr⟩ := hl w0 E w a hr hrd ha b k cs hro
  exact ⟨e, a', w', hp, .of_steps (.one (fenced_calm hb hroom rfl) stepR_loop) harr⟩

theorem EvLoop.round {c : Code} (hc : Ev P rd ntmps c (Out.next (EvLoop P rd ntmps c Q) Q) fr h) : EvLoop P rd ntmps c Q fr h := by
  intro w0 E w a hr hrd ha b k cs hro
  obtain ⟨e, a₁, w₁, hp, harr⟩ := hc w0 E w a hr hrd ha b (.inLoop c :: k) cs hro trivial (room_Wd _ _)
  obtain ⟨o, fr', h', E', rfl, hr', hs, ha', hq⟩ := hp
  have pass : ∀ o : Out, o ≠ .normal → Q o fr' h' → ArrivesIn (Machine.fenced P (Wd (rd.map E.ρ))) P (lone (b.atR a (.code c :: .inLoop c :: k)) cs w) b (.inLoop c :: k) cs o.ex a₁ w₁ →
      ∃ e a' w', Post P w0 E h ntmps Q e a' w' ∧ ArrivesIn (Machine.fenced P (Wd (rd.map E.ρ))) P (lone (b.atR a (.code c :: .inLoop c :: k)) cs w) b k cs e a' w' := fun o hne hq harr =>
    ⟨o.ex, a₁, w₁, ⟨o, fr', h', E', rfl, hr', hs, ha', hq⟩, .pass (x := .inLoop c) rfl (fun _ _ => .inl (by cases o <;> simp [Out.ex] at hne ⊢)) harr⟩
  cases o with
  | normal =>
    obtain ⟨r1, r2⟩ := rd_ext hrd hs
    obtain ⟨e₂, a₂, w₂, hp₂, harr₂⟩ := hq w0 E' w₁ a₁ hr' r2 ha' b k cs (by rw [r1]; exact hro)
    rw [r1] at harr₂
    exact ⟨e₂, a₂, w₂, hp₂.step hs, .of_steps (StepsIn.trans harr (.one (fenced_calm (n := 0) trivial (room_Wd _ _) rfl) stepR_inLoop)) harr₂⟩
  | exit id => exact pass _ (by simp) hq harr
  | goto l => exact pass _ (by simp) hq harr
  | ret => exact pass _ (by simp) hq harr
  | panic v => exact pass _ (by simp) hq harr

/-- A loop by an invariant and a measure. -/
theorem EvLoop.inv {c : Code} (I : Nat → Fr → H → Prop) (round : ∀ m fr h, I m fr h → Ev P rd ntmps c (Out.next (fun fr' h' => ∃ m', m' < m ∧ I m' fr' h') Q) fr h) :
    ∀ m fr h, I m fr h → EvLoop P rd ntmps c Q fr h := by
  intro m
  induction m using Nat.strongRecOn with
  | _ m ih =>
    intro fr h hi
    refine EvLoop.round ((round m fr h hi).mono fun o fr' h' hq => ?_)
    cases o with
    | normal => obtain ⟨m', hm, hi'⟩ := hq; exact ih m' hm fr' h' hi'
    | _ => exact hq
end
end Sx
