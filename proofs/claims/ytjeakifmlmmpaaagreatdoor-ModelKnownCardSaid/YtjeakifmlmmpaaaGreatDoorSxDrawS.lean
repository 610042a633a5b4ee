/- A drawn region in which two allocations stand in open order. (The text follows Draw.) -/
import Derived.Test.YtjeakifmlmmpaaaGreatDoorSxFroz
import Derived.Test.YtjeakifmlmmpaaaGreatDoorSxSym
namespace Sx
open Go Go.RowKit
set_option linter.unusedSimpArgs false

/-- As 'orderOK', but for one pair of effects. -/
def orderOKS (T : Tr Ty) (ops : Array Oper) (B : List Nat) (ic ia : Nat) : Bool :=
  (List.range ops.size).all fun j => (List.range j).all fun i =>
    match ops[i]?, ops[j]? with
    | some a, some b =>
      (match a.dst with | some d => !(namesOf ops b).contains d || ordB B i j | none => true) &&
      (match b.dst with | some d => !(namesOf ops a).contains d || ordB B i j | none => true) &&
      (!(effOp T a.op && effOp T b.op) || (Nat.beq i ic && Nat.beq j ia || ordB B i j))
    | _, _ => true

/-- The pair: a call that writes nothing that was there, and one that lays a block. -/
def Loose (P : Program) (T : Tr Ty) (ops : Array Oper) (B : List Nat) (vals : Nat → IV) (fr : Fr) (h h1 h2 : H) (ic ia : Nat) : Prop :=
  ∃ oc oa ta va o1, ops[ic]? = some oc ∧ ops[ia]? = some oa ∧ ic < ia ∧ rank T ops ic = 0 ∧ rank T ops ia = 1 ∧ effOp T oc.op = true ∧ effOp T oa.op = true ∧ oc.guard = none ∧ oa.guard = none ∧ oa.dst = some ta ∧
    oa.op.operands = #[] ∧ iop T (frAt ops vals fr ia).tm h oa.op = some (va, h.new o1) ∧ h2 = h1.new o1 ∧
    (∀ E E' ob, E'.ρ h1.next = E.ρ h.next → E'.κ h1.next = E.κ h.next → ORel P E (h.next + 1) h.next o1 ob → ORel P E' (h1.next + 1) h1.next o1 ob) ∧
    (∀ E E', E'.ρ h1.next = E.ρ h.next → (vals ia).den E' = va.den E) ∧ (vals ia).under (h1.next + 1) ∧
    (∃ c fo fv vs, oc.op = .call c ∧ c.callee = .value fo ∧ evo (frAt ops vals fr ic).tm fo = some fv ∧ evos (frAt ops vals fr ic).tm c.args.toList = some vs ∧ fv.under h.next ∧ underL h.next vs ∧ FCl P fv vs h (vals ic) h1) ∧
    ta ∉ namesOf ops oc ∧
    ∀ j o, ops[j]? = some o → j ≠ ia → j ≠ ic → ordB B ic j = false → ta ∉ namesOf ops o ∧ (vals j).under h.next ∧
      (wantedI ops (frAt ops vals fr j).tm o = true → iop T (frAt ops vals fr j).tm (h.new o1) o.op = some (vals j, h.new o1))

theorem opStep_callU {P : Program} {E : Env} {n : Nat} {w : World} {ntmps : Nat} {fr : Fr} {a : Act} {ops : Array Oper} {rd : Option Nat} {Qc : Exit → Act → World → Prop} {i : Nat} {Kc : Act → World → Prop} {o : Oper}
    (ha : ARel E n ntmps fr a) (ho : ops[i]? = some o) (hw : wantedI ops fr.tm o = true) {c : Call} {fo : Operand}
    (hop : o.op = .call c) (hc : c.callee = .value fo) {fv : IV} {vs : List IV} (hfv : evo fr.tm fo = some fv) (hvs : evos fr.tm c.args.toList = some vs) {R : Value → World → Prop}
    (hu : UponV P ((do let d ← Deferred.ofValue (fv.den E) (denL E vs).toArray; invoke d.target d.args : Sem Next).run P w) R) (hK : ∀ v' w', R v' w' → Kc (a.put o.dst v') w') : wpOpIn (Wd rd) 0 P ops Qc i Kc a w := by
  unfold wpOpIn
  rw [ho]
  simp only
  rw [wantedI_eq ha.f, hw]
  simp only [if_true]
  refine ⟨fun _ _ => trivial, ?_⟩
  have hnd : ∀ c, o.op ≠ .defer c := fun c e => by rw [hop] at e; cases e
  have f' : FRel E n ntmps fr.tm a := ha.f
  let hn : H := ⟨.leaf, n⟩
  have f2 : FRel E hn.next ntmps fr.tm a := f'
  have e1 : a.eval fo = fv.den E := (evo_den f2 hfv).1
  have e2 : c.args.toList.map a.eval = denL E vs := (evos_den f2 hvs).1
  have a1 : c.args.map a.eval = (denL E vs).toArray := by apply Array.ext'; simp [e2]
  have hex : execOp a.eval o = (do let d ← Deferred.ofValue (fv.den E) (denL E vs).toArray; invoke d.target d.args : Sem Next) := by
    obtain ⟨callee, args, argTypes⟩ := c
    simp only at hc hop a1
    subst hc
    simp only [execOp, hop, resolve, a1, e1]
  rw [Oper.semAt_eq _ _ _ hnd, hex]
  unfold UponV at hu
  split at hu
  · next f args w' hrun =>
    rw [hrun]
    refine ⟨fun hh => by simp [Wd, Fence.wide] at hh, ?_⟩
    refine CallsIn.mono hu ?_
    intro e w'' he
    cases e with
    | returned v' => exact hK _ _ he
    | panicked _ => exact he.elim
    | outgrown => exact he.elim
  · next v' w' hrun =>
    rw [hrun]
    exact hK _ _ hu
  · next l f tmps assign body w' hrun =>
    rw [hrun]
    refine ⟨fun hh => by simp [Wd, Fence.wide] at hh, ?_⟩
    refine RoundIn.mono hu ?_
    intro e w'' he
    cases e with
    | returned v' => exact hK _ _ he
    | panicked _ => exact he.elim
    | outgrown => exact he.elim
  · exact hu.elim

theorem tmD_congr {ops : Array Oper} {v1 v2 : Nat → IV} {fr : Fr} {D : Nat → Bool} {t : Nat} (ht : ∀ i, D i = true → dstAt ops i = some t → v1 i = v2 i) : ∀ n, tmD ops v1 fr D n t = tmD ops v2 fr D n t := by
  intro n
  induction n with
  | zero => rfl
  | succ n ih =>
    simp only [tmD]
    by_cases h : D n = true ∧ dstAt ops n = some t
    · rw [if_pos h, if_pos h]; exact ht n h.1 h.2
    · rw [if_neg h, if_neg h]; exact ih

section
variable {P : Program} {T : Tr Ty} (hT : TabOK P T) {rd : Option Nat} {ntmps : Nat} {Q : Out → Fr → H → Prop} {fr : Fr} {h : H}

include hT in
theorem Ev.region_drawS {id : Nat} {ops : Array Oper} (hm : P.follows .mixedOrders = true) (vals : Nat → IV) (hs : Nat → H) (h0 : hs 0 = h) {ic ia : Nat}
    (hord : orderOKS T ops (befL ops.toList []) ic ia = true) (hedge : edgesOK ops = true) (hdst : dstOK ops ntmps = true)
    (hS : Loose P T ops (befL ops.toList []) vals fr h (hs 1) (hs 2) ic ia)
    (hop : ∀ j o, ops[j]? = some o → OpFact P T ops (befL ops.toList []) vals hs fr j o)
    (hq : Q .normal (frAt ops vals fr ops.size) (hs (rank T ops ops.size))) : Ev P rd ntmps (.region id ops true) Q fr h := by
  intro w0 E w a hr hrd ha
  refine wpIn_region_any hm ?_
  generalize hB : befL ops.toList [] = B at hord hop hS
  obtain ⟨oc, oa, ta, va, o1, hoc, hoa, hlt01, hrc, hra, hec, hea, hgc, hga, hda, hopa, hia0, hs2, hfl, hden, hund, hcall, htc, hSops⟩ := hS
  -- what the check gives
  have hdst' : ∀ (j : Nat) (o : Oper), ops[j]? = some o → ∀ d, o.dst = some d → d < ntmps := fun j o ho d hd => by
    have := Array.all_eq_true_iff_forall_mem.1 hdst o (Array.mem_of_getElem? ho)
    rw [hd] at this
    simpa [Nat.blt_eq] using this
  have hpair : ∀ (i j : Nat) (a b : Oper), i < j → ops[i]? = some a → ops[j]? = some b →
      (∀ d, a.dst = some d → d ∈ namesOf ops b → ordB B i j = true) ∧ (∀ d, b.dst = some d → d ∈ namesOf ops a → ordB B i j = true) ∧ (effOp T a.op = true → effOp T b.op = true → ¬ (i = ic ∧ j = ia) → ordB B i j = true) := by
    intro i j a b hij hi hj
    have h1 := List.all_eq_true.1 hord j (List.mem_range.2 (Array.getElem?_eq_some_iff.1 hj).1)
    have h2 := List.all_eq_true.1 h1 i (List.mem_range.2 hij)
    simp only [hi, hj, Bool.and_eq_true] at h2
    refine ⟨fun d hd hn => ?_, fun d hd hn => ?_, fun e1 e2 hne => ?_⟩
    · have := h2.1.1; rw [hd] at this; simpa [hn] using this
    · have := h2.1.2; rw [hd] at this; simpa [hn] using this
    · have := h2.2
      simp only [e1, e2, Bool.and_self, Bool.not_true, Bool.false_or, Bool.or_eq_true, Bool.and_eq_true] at this
      rcases this with h | h
      · exact absurd ⟨Nat.eq_of_beq_eq_true h.1, Nat.eq_of_beq_eq_true h.2⟩ hne
      · exact h
  have hord' : ∀ {D : Nat → Prop}, Closed ops D → ∀ (j i : Nat) (o : Oper), ops[j]? = some o → (∀ e ∈ o.after, Region.binds .any e = true → D e.on) → ordB B i j = true → D i := by
    intro D hc j i o ho hd hx
    rw [← hB] at hx
    exact closed_ord hc j i o ho hd hx
  have hrel0 : Rel P w0 E (hs 0) { w with drawn := w.drawn + 1 } := by rw [h0]; exact hr.drew _
  have hedge' : ∀ j o, ops[j]? = some o → ∀ e ∈ o.after, Region.binds .any e = true → e.on < j := by
    intro j o ho e he hb
    have h1 := List.all_eq_true.1 hedge j (List.mem_range.2 (Array.getElem?_eq_some_iff.1 ho).1)
    simp only [ho] at h1
    have := Array.all_eq_true_iff_forall_mem.1 h1 e he
    simpa [hb, Nat.blt_eq] using this
  have hsome : ∀ j, j < ops.size → ∃ o, ops[j]? = some o := fun j hj => ⟨_, Array.getElem?_eq_getElem hj⟩
  -- when all have run
  have hend : ∀ (listed : Array Bool) (fr' : Fr) (k : Nat) (E' : Env) (a : Act) (w : World),
      (∀ i, i < ops.size → listed.getD i false = true) → (∀ t, fr'.tm.tmp t = tmD ops vals fr (fun j => listed.getD j false) ops.size t) → fr'.marks = fr.marks →
      k ≤ rank T ops ops.size → (∀ e, e < ops.size → effB T ops e = true → (listed.getD e false = true ↔ rank T ops e < k)) →
      Rel P w0 E' (hs k) w → Step E h E' (hs k) → ARel E' (hs k).next ntmps fr' a → Post P w0 E h ntmps Q .normal a w := by
    intro listed fr' k E' a w hall htm hmk hk hek hr' hs' ha'
    have hkk : k = rank T ops ops.size := by
      rcases Nat.lt_or_ge k (rank T ops ops.size) with hlt | hge
      · obtain ⟨e, e1, e2, e3⟩ := rank_at T ops ops.size k hlt
        have := (hek e e1 e2).1 (hall e e1)
        omega
      · omega
    subst hkk
    have hpt : ∀ t, (frAt ops vals fr ops.size).tm.tmp t = fr'.tm.tmp t := fun t => by
      rw [frAt_tmp, htm t]
      exact (tmD_eq ops vals fr _ t ops.size ops.size (Nat.le_refl _) fun i hi _ => ⟨fun _ => hi, fun _ => hall i hi⟩).symm
    refine ⟨.normal, _, _, E', rfl, hr', hs', ⟨⟨ha'.f.size, fun i => by rw [hpt]; exact ha'.f.val i, fun i => by rw [hpt]; exact ha'.f.under i⟩, ?_, ?_⟩, hq⟩
    · rw [frAt_marks, ← hmk]; exact ha'.d
    · rw [frAt_marks, ← hmk]; exact ha'.u
  -- the invariant
  have hicl := (Array.getElem?_eq_some_iff.1 hoc).1
  have hial := (Array.getElem?_eq_some_iff.1 hoa).1
  have hbc : effB T ops ic = true := by simp [effB, hoc, hec]
  have hba : effB T ops ia = true := by simp [effB, hoa, hea]
  -- all other effects come behind both
  have hrest : ∀ e, e < ops.size → effB T ops e = true → e ≠ ic → e ≠ ia → ordB B ic e = true ∧ ordB B ia e = true := by
    intro e hel hee h1 h2
    obtain ⟨oe, hoe⟩ := hsome e hel
    have he2 : effOp T oe.op = true := by simpa [effB, hoe] using hee
    have hgt : ia < e := by
      rcases Nat.lt_trichotomy e ia with h3 | h3 | h3
      · exfalso
        have q1 := rank_lt T ops h3 hee
        have q2 : rank T ops e = 0 := by omega
        rcases Nat.lt_trichotomy e ic with h4 | h4 | h4
        · have := rank_lt T ops h4 hee; omega
        · exact h1 h4
        · have := rank_lt T ops h4 hbc; omega
      · exact absurd h3 h2
      · exact h3
    exact ⟨(hpair ic e oc oe (by omega) hoc hoe).2.2 hec he2 (fun h => h2 h.2), (hpair ia e oa oe hgt hoa hoe).2.2 hea he2 (fun h => h2 h.2)⟩
  let vS : Nat → IV := fun j => if j = ia then va else vals j
  let hP : H := h.new o1
  -- both states at once
  let Nk (fuel : Nat) : Prop := ∀ (listed : Array Bool) (fr' : Fr) (k : Nat) (E' : Env) (a : Act) (w : World),
      listed.size = ops.size →
      Closed ops (fun j => listed.getD j false = true) →
      (∀ t, fr'.tm.tmp t = tmD ops vals fr (fun j => listed.getD j false) ops.size t) → fr'.marks = fr.marks →
      k ≤ rank T ops ops.size → (∀ e, e < ops.size → effB T ops e = true → (listed.getD e false = true ↔ rank T ops e < k)) →
      Rel P w0 E' (hs k) w → Step E h E' (hs k) → ARel E' (hs k).next ntmps fr' a →
      cnt (fun j => listed.getD j false) ops.size ≤ fuel →
      wpAnyIn (Wd (rd.map E.ρ)) 0 P .any ops (Post P w0 E h ntmps Q) fuel listed a w
  let Sk (fuel : Nat) : Prop := ∀ (listed : Array Bool) (fr' : Fr) (E' : Env) (a : Act) (w : World),
      listed.size = ops.size → listed.getD ia false = true → listed.getD ic false = false →
      Closed ops (fun j => listed.getD j false = true) →
      (∀ t, fr'.tm.tmp t = tmD ops vS fr (fun j => listed.getD j false) ops.size t) → fr'.marks = fr.marks →
      Rel P w0 E' hP w → Step E h E' hP → ARel E' hP.next ntmps fr' a →
      cnt (fun j => listed.getD j false) ops.size ≤ fuel →
      wpAnyIn (Wd (rd.map E.ρ)) 0 P .any ops (Post P w0 E h ntmps Q) fuel listed a w
  have key : ∀ fuel, Nk fuel ∧ Sk fuel := by
    intro fuel
    induction fuel with
    | zero =>
      refine ⟨?_, fun listed fr' E' a w hsz hla hlc hcl htm hmk hr' hs' ha' hfuel => ?_⟩
      case refine_2 =>
        have hall := cnt_zero ops.size (Nat.le_zero.1 hfuel)
        rw [hall ic hicl] at hlc
        cases hlc
      intro listed fr' k E' a w hsz hcl htm hmk hk hek hr' hs' ha' hfuel
      have hall := cnt_zero ops.size (Nat.le_zero.1 hfuel)
      refine ⟨?_, hend listed fr' k E' a w hall htm hmk hk hek hr' hs' ha'⟩
      rw [List.eq_nil_iff_forall_not_mem]
      intro j hj
      obtain ⟨h1, o, ho, _⟩ := mem_ready.1 hj
      have hlt := (Array.getElem?_eq_some_iff.1 ho).1
      have := hall j hlt
      rw [Array.getD_eq_getD_getElem?, Array.getElem?_eq_getElem (by omega)] at h1 this
      simp at h1 this
      rw [h1] at this
      cases this
    | succ fuel ih =>
      refine ⟨?_, fun listed fr' E' a w hsz hla hlc hcl htm hmk hr' hs' ha' hfuel => ⟨fun hnil => ?_, fun j hj => ?_⟩⟩
      case succ.refine_2 =>
        -- none is ready: all have run
        exfalso
        have hgd : ∀ j, j < ops.size → listed.getD j true = listed.getD j false := fun j hj => by
          rw [Array.getD_eq_getD_getElem?, Array.getD_eq_getD_getElem?, Array.getElem?_eq_getElem (by omega)]; rfl
        suffices hall : ∀ i, i < ops.size → listed.getD i false = true by
          rw [hall ic hicl] at hlc
          cases hlc
        intro i hi
        induction i using Nat.strongRecOn with
        | _ i ihi =>
          cases hd : listed.getD i false with
          | true => rfl
          | false =>
            exfalso
            obtain ⟨o, ho⟩ := hsome i hi
            have : i ∈ Region.ready .any ops listed := mem_ready.2 ⟨by rw [hgd i hi]; exact hd, o, ho, fun e he hb => ihi e.on (hedge' i o ho e he hb) (by have := hedge' i o ho e he hb; omega)⟩
            rw [hnil] at this
            cases this
      case succ.refine_3 =>
        have hgd : ∀ j, j < ops.size → listed.getD j true = listed.getD j false := fun j hj => by
          rw [Array.getD_eq_getD_getElem?, Array.getD_eq_getD_getElem?, Array.getElem?_eq_getElem (by omega)]; rfl
        obtain ⟨hun0, o, ho, hpre⟩ := mem_ready.1 hj
        have hjlt := (Array.getElem?_eq_some_iff.1 ho).1
        have hun : listed.getD j false = false := by rw [← hgd j hjlt]; exact hun0
        have hdj : dstAt ops j = o.dst := by simp [dstAt, ho]
        have hjia : j ≠ ia := fun e => by subst e; rw [hla] at hun; cases hun
        have hnoc : ordB B ic j = false := by
          cases hx : ordB B ic j with
          | false => rfl
          | true =>
            have := hord' hcl j ic o ho hpre hx
            rw [hlc] at this
            cases this
        -- what has run: ia, and what may run ahead of ic
        have hDS : ∀ i, listed.getD i false = true → i ≠ ia → ∃ oi, ops[i]? = some oi ∧ i ≠ ic ∧ ordB B ic i = false := by
          intro i hi hne
          have hil : i < ops.size := by
            rcases Nat.lt_or_ge i ops.size with h1 | h1
            · exact h1
            · rw [Array.getD_eq_getD_getElem?, Array.getElem?_eq_none (by omega)] at hi; cases hi
          obtain ⟨oi, hoi⟩ := hsome i hil
          refine ⟨oi, hoi, (fun e => by subst e; rw [hlc] at hi; cases hi), ?_⟩
          cases hx : ordB B ic i with
          | false => rfl
          | true =>
            have := hord' hcl i ic oi hoi (fun e he hb => hcl i oi hi hoi e he hb) hx
            rw [hlc] at this
            cases this
        have hafter : ∀ i oi, j < i → ops[i]? = some oi → listed.getD i false = true → ordB B j i = true → False := by
          intro i oi hji hoi hdi hord2
          have : listed.getD j false = true := hord' hcl i j oi hoi (fun e he hb => hcl i oi hdi hoi e he hb) hord2
          rw [this] at hun
          cases hun
        have hSv : ∀ t, t ≠ ta → tmD ops vS fr (fun j => listed.getD j false) ops.size t = tmD ops vals fr (fun j => listed.getD j false) ops.size t := fun t ht =>
          tmD_congr (fun i hi hd => by
            simp only [vS]
            rw [if_neg]
            intro e
            subst e
            have : dstAt ops i = some ta := by simp [dstAt, hoa, hda]
            rw [this] at hd
            cases hd
            exact ht rfl) _
        have hagree : ∀ t, t ∈ namesOf ops o → t ≠ ta → fr'.tm.tmp t = (frAt ops vals fr j).tm.tmp t := by
          intro t ht hta
          rw [htm, frAt_tmp, hSv t hta]
          refine tmD_eq ops vals fr _ t j ops.size (by omega) fun i hi hd => ?_
          obtain ⟨oi, hoi⟩ := hsome i hi
          have hd' : oi.dst = some t := by simpa [dstAt, hoi] using hd
          constructor
          · intro hdi
            rcases Nat.lt_trichotomy i j with h1 | h1 | h1
            · exact h1
            · subst h1; rw [hdi] at hun; cases hun
            · exact (hafter i oi h1 hoi hdi ((hpair j i o oi h1 ho hoi).2.1 t hd' ht)).elim
          · intro hij
            exact hord' hcl j i o ho hpre ((hpair i j oi o hij hoi ho).1 t hd' ht)
        have hset : ∀ i, (listed.setIfInBounds j true).getD i false = if i = j then true else listed.getD i false := fun i => by
          rw [Array.getD_eq_getD_getElem?, Array.getElem?_setIfInBounds]
          by_cases e : j = i
          · subst e; simp [hsz, hjlt]
          · rw [if_neg e, if_neg (fun hh => e hh.symm), Array.getD_eq_getD_getElem?]
        have hcl' : Closed ops (fun i => (listed.setIfInBounds j true).getD i false = true) := by
          intro i oi hdi hoi e he hb
          rw [hset] at hdi ⊢
          by_cases e1 : e.on = j
          · rw [if_pos e1]
          · rw [if_neg e1]
            by_cases e2 : i = j
            · subst e2
              rw [ho] at hoi
              cases hoi
              exact hpre e he hb
            · rw [if_neg e2] at hdi
              exact hcl i oi hdi hoi e he hb
        have hcnt : cnt (fun i => (listed.setIfInBounds j true).getD i false) ops.size ≤ fuel := by
          have := cnt_add (D := fun j => listed.getD j false) hun (fun i => hset i) ops.size
          rw [if_pos hjlt] at this
          omega
        have hadd : ∀ (v : Nat → IV) t, tmD ops v fr (fun i => (listed.setIfInBounds j true).getD i false) ops.size t = if j < ops.size ∧ dstAt ops j = some t then v j else tmD ops v fr (fun i => listed.getD i false) ops.size t := fun v t =>
          tmD_add ops v fr (D := fun j => listed.getD j false) (j := j) (fun i => hset i) ops.size (fun hjt i hi hji hd => by
            obtain ⟨oi, hoi⟩ := hsome i hi
            cases hdi : listed.getD i false with
            | false => rfl
            | true =>
              exfalso
              have hd' : oi.dst = some t := by simpa [dstAt, hoi] using hd
              exact hafter i oi hji hoi hdi ((hpair j i o oi hji ho hoi).2.1 t hd' (by simp only [namesOf, List.mem_append]; exact .inl (.inl (by rw [← hdj, hjt]; simp)))))
        have hd := hdst' j o ho
        by_cases hjc : j = ic
        · subst hjc
          rw [hoc] at ho
          cases ho
          obtain ⟨c, fo, fv, vs, hop2, hc, hfv, hvs, hfu, hvu, hfcl⟩ := hcall
          have hops : ∀ x ∈ oc.op.operands, agree fr'.tm (frAt ops vals fr j).tm x := fun x hx t ht => by
            have hin : t ∈ namesOf ops oc := by
              subst ht
              simp only [namesOf, List.mem_append]
              exact .inl (.inr (List.mem_filterMap.2 ⟨.tmp t, Array.mem_toList_iff.2 hx, rfl⟩))
            exact hagree t hin (fun e => by subst e; exact htc hin)
          have ho1 : ∀ x ∈ (fo :: c.args.toList), agree fr'.tm (frAt ops vals fr j).tm x := fun x hx => hops x (by
            obtain ⟨callee, args, argTypes⟩ := c
            simp only at hc
            subst hc
            rw [hop2]
            simp only [Op.operands, Call.operands]
            rcases List.mem_cons.1 hx with rfl | hx
            · simp
            · simp [Array.mem_toList_iff.1 hx])
          rw [← evo_congr (ho1 fo (by simp))] at hfv
          rw [← evos_congr (fun x hx => ho1 x (by simp [hx]))] at hvs
          -- the block of ia is left aside
          have hgn : ∀ i x, h.get i = some x → hP.get i = some x ∧ i < h.next := fun i x hi => by
            have := hr.dom _ _ hi
            refine ⟨?_, this⟩
            show (h.new o1).get i = some x
            rw [H.get_new, if_neg (by omega)]
            exact hi
          have hrh : Rel P w0 E' h w := ⟨hr'.below, hr.dom, fun i o wr hi => ⟨(hr.obj i o wr hi).1.shrink (hr'.obj i o wr (hgn i _ hi).1).1, (hr'.obj i o wr (hgn i _ hi).1).2⟩,
            fun i o hi => hr'.wr i o (hgn i _ hi).1, fun i j x y hi hj hw he => hr'.inj i j x y (hgn i _ hi).1 (hgn j _ hj).1 hw he⟩
          have hPn : hP.get h.next = some (o1, true) := by show (h.new o1).get h.next = _; rw [H.get_new, if_pos rfl]
          obtain ⟨hbo, hbl⟩ := hr'.obj _ _ _ hPn
          obtain ⟨ob, hob⟩ : ∃ ob, w.heap[E'.ρ h.next]? = some ob := ⟨_, Array.getElem?_eq_getElem hbl⟩
          rw [hob] at hbo
          refine opStep_callU ha' hoc (by simp [wantedI, hgc]) hop2 hc hfv hvs (hfcl.run hrh hfu hvu) ?_
          rintro v' w2 ⟨E2, rfl, r2, st2, hv2, hbel, hfresh, hold⟩
          have hEE : Ext h.next E E' := fun i hi => hs'.ext i hi
          have hx2 : Ext h.next E' E2 := st2.ext
          have hle1 : h.next ≤ (hs 1).next := st2.le
          let E3 : Env := E2.bind (hs 1).next (E'.ρ h.next) (E'.κ h.next)
          have hx3 : Ext (hs 1).next E2 E3 := Env.bind_ext _ _ _ _
          have hρ3 : E3.ρ (hs 1).next = E'.ρ h.next := by simp [E3, Env.bind]
          have hκ3 : E3.κ (hs 1).next = E'.κ h.next := by simp [E3, Env.bind]
          have hx : Ext h.next E' E3 := hx2.trans hx3 hle1
          have hA2 : w2.heap[E'.ρ h.next]? = some ob := by rw [hbel.block _ hbl]; exact hob
          have hsplit : ∀ i x, ((hs 1).new o1).get i = some x → (i = (hs 1).next ∧ x = (o1, true)) ∨ (i < (hs 1).next ∧ (hs 1).get i = some x) := fun i x hi => by
            rw [H.get_new] at hi
            by_cases e : (hs 1).next = i
            · rw [if_pos e] at hi; cases hi; exact .inl ⟨e.symm, rfl⟩
            · rw [if_neg e] at hi; exact .inr ⟨r2.dom _ _ hi, hi⟩
          have hneA : ∀ i x, i < (hs 1).next → (hs 1).get i = some x → E3.ρ i ≠ E'.ρ h.next := fun i x hi hg he => by
            rw [(hx3 i hi).1] at he
            rcases Nat.lt_or_ge i h.next with h1 | h1
            · have h2 := hold i x h1 hg
              rw [(hx2 i h1).1] at he
              have := hr'.inj i h.next x (o1, true) (hgn i _ h2).1 hPn (.inr rfl) he
              omega
            · have := hfresh i x h1 hg
              omega
          have r3 : Rel P w0 E3 (hs 2) w2 := by
            rw [hs2]
            refine ⟨r2.below, fun i x hi => ?_, fun i o wr hi => ?_, fun i o hi => ?_, fun i j x y hi hj hw he => ?_⟩
            · rcases hsplit i x hi with ⟨rfl, _⟩ | ⟨h1, _⟩
              · simp
              · simp only [H.next_new]; omega
            · rcases hsplit i _ hi with ⟨rfl, h2⟩ | ⟨h1, h2⟩
              · cases h2
                rw [hρ3, hA2]
                exact ⟨hfl E' E3 (some ob) hρ3 hκ3 hbo, Nat.lt_of_lt_of_le hbl hbel.size⟩
              · obtain ⟨q1, q2⟩ := r2.obj _ _ _ h2
                rw [(hx3 i h1).1]
                exact ⟨q1.mono hx3 h1 (by simp), q2⟩
            · rcases hsplit i _ hi with ⟨rfl, _⟩ | ⟨h1, h2⟩
              · rw [hρ3]; exact hr'.wr _ _ hPn
              · rw [(hx3 i h1).1]; exact r2.wr _ _ h2
            · rcases hsplit i x hi with ⟨rfl, _⟩ | ⟨h1, h2⟩
              · rcases hsplit j y hj with ⟨rfl, _⟩ | ⟨k1, k2⟩
                · rfl
                · rw [hρ3] at he; exact absurd he.symm (hneA j y k1 k2)
              · rcases hsplit j y hj with ⟨rfl, _⟩ | ⟨k1, k2⟩
                · rw [hρ3] at he; exact absurd he (hneA i x h1 h2)
                · rw [(hx3 i h1).1, (hx3 j k1).1] at he
                  exact r2.inj _ _ _ _ h2 k2 hw he
          have st3 : Step E h E3 (hs 2) := ⟨hEE.trans hx (Nat.le_refl _), by rw [hs2]; simp only [H.next_new]; omega⟩
          -- the frame
          have htmA : tmD ops vS fr (fun i => listed.getD i false) ops.size ta = va := by
            have : ∀ n, n ≤ ops.size → tmD ops vS fr (fun i => listed.getD i false) n ta = if ia < n then va else fr.tm.tmp ta := by
              intro n
              induction n with
              | zero => intro _; simp [tmD]
              | succ n ihn =>
                intro hn
                simp only [tmD]
                by_cases hx : listed.getD n false = true ∧ dstAt ops n = some ta
                · rw [if_pos hx]
                  by_cases hna : n = ia
                  · subst hna; rw [if_pos (by omega)]; simp [vS]
                  · exfalso
                    obtain ⟨oi, hoi, h1, h2⟩ := hDS n hx.1 hna
                    have := (hSops n oi hoi hna h1 h2).1
                    refine this ?_
                    have hd' : oi.dst = some ta := by simpa [dstAt, hoi] using hx.2
                    simp only [namesOf, List.mem_append]
                    exact .inl (.inl (by rw [hd']; simp))
                · rw [if_neg hx, ihn (by omega)]
                  have hna : n ≠ ia := fun e => hx (by subst e; exact ⟨hla, by simp [dstAt, hoa, hda]⟩)
                  by_cases h1 : ia < n
                  · rw [if_pos h1, if_pos (by omega)]
                  · rw [if_neg h1, if_neg (by omega)]
            rw [this _ (Nat.le_refl _), if_pos hial]
          have htmAv : tmD ops vals fr (fun i => listed.getD i false) ops.size ta = vals ia := by
            have : ∀ n, n ≤ ops.size → tmD ops vals fr (fun i => listed.getD i false) n ta = if ia < n then vals ia else fr.tm.tmp ta := by
              intro n
              induction n with
              | zero => intro _; simp [tmD]
              | succ n ihn =>
                intro hn
                simp only [tmD]
                by_cases hx : listed.getD n false = true ∧ dstAt ops n = some ta
                · rw [if_pos hx]
                  by_cases hna : n = ia
                  · subst hna; rw [if_pos (by omega)]
                  · exfalso
                    obtain ⟨oi, hoi, h1, h2⟩ := hDS n hx.1 hna
                    have := (hSops n oi hoi hna h1 h2).1
                    refine this ?_
                    have hd' : oi.dst = some ta := by simpa [dstAt, hoi] using hx.2
                    simp only [namesOf, List.mem_append]
                    exact .inl (.inl (by rw [hd']; simp))
                · rw [if_neg hx, ihn (by omega)]
                  have hna : n ≠ ia := fun e => hx (by subst e; exact ⟨hla, by simp [dstAt, hoa, hda]⟩)
                  by_cases h1 : ia < n
                  · rw [if_pos h1, if_pos (by omega)]
                  · rw [if_neg h1, if_neg (by omega)]
            rw [this _ (Nat.le_refl _), if_pos hial]
          have hunder : ∀ t, t ≠ ta → (fr'.tm.tmp t).under h.next := by
            intro t ht
            rw [htm t]
            have : ∀ n, (tmD ops vS fr (fun i => listed.getD i false) n t).under h.next := by
              intro n
              induction n with
              | zero => exact ha.f.under t
              | succ n ihn =>
                simp only [tmD]
                split
                · rename_i hx
                  by_cases hna : n = ia
                  · exfalso
                    subst hna
                    have : dstAt ops n = some ta := by simp [dstAt, hoa, hda]
                    rw [this] at hx
                    exact ht (by cases hx.2; rfl)
                  · obtain ⟨oi, hoi, h1, h2⟩ := hDS n hx.1 hna
                    have := (hSops n oi hoi hna h1 h2).2.1
                    simpa [vS, hna] using this
                · exact ihn
            exact this _
          let fr3 : Fr := ⟨fr'.tm.set ta (some (vals ia)), fr'.marks⟩
          have hta : ta < ntmps := hdst' ia oa hoa ta hda
          have ha3 : ARel E3 (hs 2).next ntmps fr3 a := by
            have hn2 : (hs 2).next = (hs 1).next + 1 := by rw [hs2]; rfl
            refine ⟨⟨ha'.f.size, fun i => ?_, fun i => ?_⟩, ?_, fun m hm => ?_⟩
            · show a.tmps.getD i undef = (Tr.tmp (fr'.tm.set ta (some (vals ia))) i).den E3
              rw [tmp_set]
              by_cases e : ta = i
              · subst e
                rw [if_pos rfl, ha'.f.val, htm, htmA]
                exact (hden E' E3 hρ3).symm
              · rw [if_neg e, ha'.f.val, IV.den_ext hx _ (hunder i (fun h => e h.symm))]
            · show (Tr.tmp (fr'.tm.set ta (some (vals ia))) i).under _
              rw [tmp_set, hn2]
              by_cases e : ta = i
              · rw [if_pos e]; exact hund
              · rw [if_neg e]; exact IV.under_mono (by omega) _ (hunder i (fun h => e h.symm))
            · rw [ha'.d]
              refine List.map_congr_left fun m hm => ?_
              have hmb : m.blk < h.next := ha.u m (by rw [hmk] at hm; exact hm)
              have := (hx m.blk hmb).1
              cases m <;> simp only [Mk.blk] at this <;> simp [Mk.den, this]
            · have hmb : m.blk < h.next := ha.u m (by have : m ∈ fr'.marks := hm; rw [hmk] at this; exact this)
              omega
          have hvd : (vals j).den E2 = (vals j).den E3 := (IV.den_ext hx3 _ hv2).symm
          rw [hvd]
          have hput := ha3.put (v := vals j) hd (IV.under_mono (by rw [hs2]; simp) _ hv2)
          refine ih.1 (listed.setIfInBounds j true) (fr3.put oc.dst (vals j)) 2 E3 _ w2 (by simp [hsz]) hcl' ?_ ?_ ?_ ?_ r3 st3 hput hcnt
          · intro t
            rw [hadd vals t, hdj]
            have hfr3 : ∀ t, fr3.tm.tmp t = tmD ops vals fr (fun i => listed.getD i false) ops.size t := fun t => by
              show Tr.tmp (fr'.tm.set ta (some (vals ia))) t = _
              rw [tmp_set]
              by_cases e : ta = t
              · subst e; rw [if_pos rfl]; exact htmAv.symm
              · rw [if_neg e, htm, hSv t (fun h => e h.symm)]
            unfold Fr.put
            cases hdst2 : oc.dst with
            | none => simp [hfr3 t]
            | some d =>
              simp only [tmp_set, Option.some.injEq, hjlt, true_and]
              rw [hfr3 t]
          · unfold Fr.put
            split <;> exact hmk
          · have := rank_lt T ops hial hba; omega
          · intro e he hee
            rw [hset]
            by_cases e1 : e = j
            · subst e1; simp [hrc]
            · rw [if_neg e1]
              by_cases e2 : e = ia
              · subst e2; simp [hla, hra]
              · obtain ⟨q1, q2⟩ := hrest e he hee e1 e2
                have hne : listed.getD e false = false := by
                  cases hxx : listed.getD e false with
                  | false => rfl
                  | true =>
                    obtain ⟨oe, hoe⟩ := hsome e he
                    have := hord' hcl e j oe hoe (fun e' he' hb' => hcl e oe hxx hoe e' he' hb') q1
                    rw [hlc] at this
                    cases this
                rw [hne]
                have hgt : 2 ≤ rank T ops e := by
                  have h3 : e ≠ j ∧ e ≠ ia := ⟨e1, e2⟩
                  rcases Nat.lt_trichotomy e ia with h4 | h4 | h4
                  · exfalso
                    have q3 := rank_lt T ops h4 hee
                    have q4 : rank T ops e = 0 := by omega
                    rcases Nat.lt_trichotomy e j with h5 | h5 | h5
                    · have := rank_lt T ops h5 hee; omega
                    · exact e1 h5
                    · have := rank_lt T ops h5 hbc; omega
                  · exact absurd h4 e2
                  · have := rank_lt T ops h4 hba; omega
                constructor
                · intro h; cases h
                · intro h; omega
        · obtain ⟨s1, s2, s3⟩ := hSops j o ho hjia hjc hnoc
          have hagr : ∀ t, t ∈ namesOf ops o → fr'.tm.tmp t = (frAt ops vals fr j).tm.tmp t := fun t ht => hagree t ht (fun e => by subst e; exact s1 ht)
          have hops : ∀ x ∈ o.op.operands, agree fr'.tm (frAt ops vals fr j).tm x := fun x hx t ht => by
            refine hagr t ?_
            subst ht
            simp only [namesOf, List.mem_append]
            exact .inl (.inr (List.mem_filterMap.2 ⟨.tmp t, Array.mem_toList_iff.2 hx, rfl⟩))
          have hwant : wantedI ops fr'.tm o = wantedI ops (frAt ops vals fr j).tm o := by
            refine wantedI_congr fun g b d hg hd => hagr d ?_
            simp only [namesOf, List.mem_append, hg]
            exact .inr (by simp [hd])
          have hvj : vS j = vals j := by simp [vS, hjia]
          have hnext : ∀ (E2 : Env) (w2 : World), Rel P w0 E2 hP w2 → Step E h E2 hP → ARel E2 hP.next ntmps (fr'.put o.dst (vals j)) (a.put o.dst ((vals j).den E2)) →
              wpAnyIn (Wd (rd.map E.ρ)) 0 P .any ops (Post P w0 E h ntmps Q) fuel (listed.setIfInBounds j true) (a.put o.dst ((vals j).den E2)) w2 := by
            intro E2 w2 hr2 hs2 ha2
            refine ih.2 (listed.setIfInBounds j true) (fr'.put o.dst (vals j)) E2 _ w2 (by simp [hsz]) (by rw [hset]; split <;> first | rfl | exact hla) (by rw [hset, if_neg (fun e => hjc e.symm)]; exact hlc) hcl' ?_ ?_ hr2 hs2 ha2 hcnt
            · intro t
              rw [hadd vS t, hvj, hdj]
              unfold Fr.put
              cases hdst2 : o.dst with
              | none => simp [htm t]
              | some d =>
                simp only [tmp_set, Option.some.injEq, hjlt, true_and]
                rw [htm t]
            · unfold Fr.put
              split <;> exact hmk
          cases hw : wantedI ops (frAt ops vals fr j).tm o with
          | false =>
            have hfact := hop j o ho
            unfold OpFact at hfact
            rw [if_pos hw] at hfact
            refine opStep_skip ha' ho (by rw [hwant]; exact hw) ?_
            have hput := ha'.put (v := undefI) hd (by simp [undefI, IV.under, underL])
            rw [← hfact.1] at hput
            have e0 : a.put o.dst undef = a.put o.dst ((vals j).den E') := by rw [hfact.1, den_undef]
            rw [e0]
            exact hnext E' w hr' hs' hput
          | true =>
            have hf2 := s3 hw
            rw [← iop_congr hops] at hf2
            exact opStep_iop hT hr' ha' ho (by rw [hwant]; exact hw) hd hf2 fun E2 w2 hr2 hs2 ha2 => hnext E2 w2 hr2 (hs'.trans hs2) ha2
      case succ.refine_1 =>
      intro listed fr' k E' a w hsz hcl htm hmk hk hek hr' hs' ha' hfuel
      have hgd : ∀ j, j < ops.size → listed.getD j true = listed.getD j false := fun j hj => by
        rw [Array.getD_eq_getD_getElem?, Array.getD_eq_getD_getElem?, Array.getElem?_eq_getElem (by omega)]; rfl
      refine ⟨fun hnil => hend listed fr' k E' a w ?_ htm hmk hk hek hr' hs' ha', ?_⟩
      · -- none is ready: all have run
        intro i hi
        induction i using Nat.strongRecOn with
        | _ i ihi =>
          cases hd : listed.getD i false with
          | true => rfl
          | false =>
            exfalso
            obtain ⟨o, ho⟩ := hsome i hi
            have : i ∈ Region.ready .any ops listed := mem_ready.2 ⟨by rw [hgd i hi]; exact hd, o, ho, fun e he hb => ihi e.on (hedge' i o ho e he hb) (by have := hedge' i o ho e he hb; omega)⟩
            rw [hnil] at this
            cases this
      · intro j hj
        obtain ⟨hun0, o, ho, hpre⟩ := mem_ready.1 hj
        have hjlt := (Array.getElem?_eq_some_iff.1 ho).1
        have hun : listed.getD j false = false := by rw [← hgd j hjlt]; exact hun0
        have hdj : dstAt ops j = o.dst := by simp [dstAt, ho]
        -- a later writer or reader of the same temporaries has not run
        have hafter : ∀ i oi, j < i → ops[i]? = some oi → listed.getD i false = true → ordB B j i = true → False := by
          intro i oi hji hoi hdi hord2
          have : listed.getD j false = true := hord' hcl i j oi hoi (fun e he hb => hcl i oi hdi hoi e he hb) hord2
          rw [this] at hun
          cases hun
        have hagree : ∀ t, t ∈ namesOf ops o → fr'.tm.tmp t = (frAt ops vals fr j).tm.tmp t := by
          intro t ht
          rw [htm, frAt_tmp]
          refine tmD_eq ops vals fr _ t j ops.size (by omega) fun i hi hd => ?_
          obtain ⟨oi, hoi⟩ := hsome i hi
          have hd' : oi.dst = some t := by simpa [dstAt, hoi] using hd
          constructor
          · intro hdi
            rcases Nat.lt_trichotomy i j with h1 | h1 | h1
            · exact h1
            · subst h1; rw [hdi] at hun; cases hun
            · exact (hafter i oi h1 hoi hdi ((hpair j i o oi h1 ho hoi).2.1 t hd' ht)).elim
          · intro hij
            exact hord' hcl j i o ho hpre ((hpair i j oi o hij hoi ho).1 t hd' ht)
        have hops : ∀ x ∈ o.op.operands, agree fr'.tm (frAt ops vals fr j).tm x := fun x hx t ht => by
          refine hagree t ?_
          subst ht
          simp only [namesOf, List.mem_append]
          exact .inl (.inr (List.mem_filterMap.2 ⟨.tmp t, Array.mem_toList_iff.2 hx, rfl⟩))
        have hwant : wantedI ops fr'.tm o = wantedI ops (frAt ops vals fr j).tm o := by
          refine wantedI_congr fun g b d hg hd => hagree d ?_
          simp only [namesOf, List.mem_append, hg]
          exact .inr (by simp [hd])
        -- the new state
        have hset : ∀ i, (listed.setIfInBounds j true).getD i false = if i = j then true else listed.getD i false := fun i => by
          rw [Array.getD_eq_getD_getElem?, Array.getElem?_setIfInBounds]
          by_cases e : j = i
          · subst e; simp [hsz, hjlt]
          · rw [if_neg e, if_neg (fun hh => e hh.symm), Array.getD_eq_getD_getElem?]
        have hnew : ∀ (k' : Nat) (E2 : Env) (w2 : World), k' ≤ rank T ops ops.size → (∀ e, e < ops.size → effB T ops e = true → ((if e = j then true else listed.getD e false) = true ↔ rank T ops e < k')) →
            Rel P w0 E2 (hs k') w2 → Step E h E2 (hs k') → ARel E2 (hs k').next ntmps (fr'.put o.dst (vals j)) (a.put o.dst ((vals j).den E2)) →
            wpAnyIn (Wd (rd.map E.ρ)) 0 P .any ops (Post P w0 E h ntmps Q) fuel (listed.setIfInBounds j true) (a.put o.dst ((vals j).den E2)) w2 := by
          intro k' E2 w2 hk' hek' hr2 hs2 ha2
          refine ih.1 (listed.setIfInBounds j true) (fr'.put o.dst (vals j)) k' E2 _ w2 (by simp [hsz]) ?_ ?_ ?_ hk' ?_ hr2 hs2 ha2 ?_
          · intro i oi hdi hoi e he hb
            rw [hset] at hdi ⊢
            by_cases e1 : e.on = j
            · rw [if_pos e1]
            · rw [if_neg e1]
              by_cases e2 : i = j
              · subst e2
                rw [ho] at hoi
                cases hoi
                exact hpre e he hb
              · rw [if_neg e2] at hdi
                exact hcl i oi hdi hoi e he hb
          · intro t
            rw [tmD_add ops vals fr (D := fun j => listed.getD j false) (j := j) (fun i => hset i) ops.size (fun hjt i hi hji hd => ?_)]
            · unfold Fr.put
              rw [hdj]
              cases hdst2 : o.dst with
              | none => simp [htm t]
              | some d =>
                simp only [tmp_set, Option.some.injEq, hjlt, true_and]
                rw [htm t]
            · obtain ⟨oi, hoi⟩ := hsome i hi
              cases hdi : listed.getD i false with
              | false => rfl
              | true =>
                exfalso
                have hd' : oi.dst = some t := by simpa [dstAt, hoi] using hd
                exact hafter i oi hji hoi hdi ((hpair j i o oi hji ho hoi).2.1 t hd' (by simp only [namesOf, List.mem_append]; exact .inl (.inl (by rw [← hdj, hjt]; simp))))
          · unfold Fr.put
            split <;> exact hmk
          · intro e he hee
            rw [hset]
            exact hek' e he hee
          · have := cnt_add (D := fun j => listed.getD j false) hun (fun i => hset i) ops.size
            rw [if_pos hjlt] at this
            omega
        have heff : effB T ops j = effOp T o.op := by simp [effB, ho]
        by_cases hspec : j = ia ∧ listed.getD ic false = false
        · obtain ⟨rfl, hlc⟩ := hspec
          rw [hoa] at ho
          cases ho
          have hk0 : k = 0 := by
            rcases Nat.eq_zero_or_pos k with h1 | h1
            · exact h1
            · have := (hek ic hicl hbc).2 (by omega)
              rw [hlc] at this
              cases this
          subst hk0
          rw [h0] at hr' hs' ha'
          rw [← iop_congr hops] at hia0
          refine opStep_iop hT hr' ha' hoa (by simp [wantedI, hga]) (hdst' j oa hoa) hia0 fun E2 w2 hr2 hs2 ha2 => ?_
          refine ih.2 (listed.setIfInBounds j true) (fr'.put oa.dst va) E2 _ w2 (by simp [hsz]) (by rw [hset, if_pos rfl]) (by rw [hset, if_neg (by omega)]; exact hlc) ?_ ?_ ?_ hr2 (hs'.trans hs2) ha2 ?_
          · intro i oi hdi hoi e he hb
            rw [hset] at hdi ⊢
            by_cases e1 : e.on = j
            · rw [if_pos e1]
            · rw [if_neg e1]
              by_cases e2 : i = j
              · subst e2
                rw [hoa] at hoi
                cases hoi
                exact hpre e he hb
              · rw [if_neg e2] at hdi
                exact hcl i oi hdi hoi e he hb
          · intro t
            rw [tmD_add ops vS fr (D := fun j => listed.getD j false) (j := j) (fun i => hset i) ops.size (fun hjt i hi hji hd => ?_)]
            · have hcg : tmD ops vS fr (fun j => listed.getD j false) ops.size t = tmD ops vals fr (fun j => listed.getD j false) ops.size t :=
                tmD_congr (fun i hi _ => by
                  simp only [vS]
                  rw [if_neg]
                  intro e
                  subst e
                  rw [hun] at hi
                  cases hi) _
              rw [hcg]
              have hvj : vS j = va := by simp [vS]
              rw [hvj, hdj]
              unfold Fr.put
              cases hdst2 : oa.dst with
              | none => simp [htm t]
              | some d =>
                simp only [tmp_set, Option.some.injEq, hjlt, true_and]
                rw [htm t]
            · obtain ⟨oi, hoi⟩ := hsome i hi
              cases hdi : listed.getD i false with
              | false => rfl
              | true =>
                exfalso
                have hd' : oi.dst = some t := by simpa [dstAt, hoi] using hd
                exact hafter i oi hji hoi hdi ((hpair j i oa oi hji hoa hoi).2.1 t hd' (by simp only [namesOf, List.mem_append]; exact .inl (.inl (by rw [← hdj, hjt]; simp))))
          · unfold Fr.put
            split <;> exact hmk
          · have := cnt_add (D := fun j => listed.getD j false) hun (fun i => hset i) ops.size
            rw [if_pos hjlt] at this
            omega
        have hrankj : effOp T o.op = true → k = rank T ops j := by
          intro he
          have h1 : ¬ rank T ops j < k := fun hlt => by
            have := (hek j hjlt (by rw [heff]; exact he)).2 hlt
            rw [this] at hun
            cases hun
          rcases Nat.lt_or_ge k (rank T ops j) with h2 | h2
          · exfalso
            obtain ⟨e, e1, e2, e3⟩ := rank_at T ops j k h2
            obtain ⟨oe, hoe⟩ := hsome e (by omega)
            have he2 : effOp T oe.op = true := by simpa [effB, hoe] using e2
            have hle : listed.getD e false = true := by
              by_cases hee : e = ic ∧ j = ia
              · obtain ⟨rfl, rfl⟩ := hee
                cases hx : listed.getD e false with
                | true => rfl
                | false => exact absurd ⟨rfl, hx⟩ hspec
              · exact hord' hcl j e o ho hpre ((hpair e j oe o e1 hoe ho).2.2 he2 he hee)
            have := (hek e (by omega) e2).1 hle
            omega
          · omega
        have hranksz : effOp T o.op = true → rank T ops j + 1 ≤ rank T ops ops.size := fun he => rank_lt T ops hjlt (by rw [heff]; exact he)
        have hekE : effOp T o.op = true → ∀ e, e < ops.size → effB T ops e = true → ((if e = j then true else listed.getD e false) = true ↔ rank T ops e < rank T ops j + 1) := by
          intro he e hel hee
          have hkj := hrankj he
          by_cases e1 : e = j
          · subst e1; simp
          · rw [if_neg e1, hek e hel hee, hkj]
            rcases Nat.lt_or_gt_of_ne e1 with h1 | h1
            · have := rank_lt T ops h1 hee; omega
            · have := rank_lt T ops h1 (by rw [heff]; exact he); omega
        have hekN : effOp T o.op = false → ∀ e, e < ops.size → effB T ops e = true → ((if e = j then true else listed.getD e false) = true ↔ rank T ops e < k) := by
          intro he e hel hee
          by_cases e1 : e = j
          · subst e1; rw [heff, he] at hee; cases hee
          · rw [if_neg e1]; exact hek e hel hee
        have hd := hdst' j o ho
        have hfact := hop j o ho
        unfold OpFact at hfact
        split at hfact
        · next hw =>
          rw [← hwant] at hw
          refine opStep_skip ha' ho hw ?_
          have hput := ha'.put (v := undefI) hd (by simp [undefI, IV.under, underL])
          rw [← hfact.1] at hput
          have e0 : a.put o.dst undef = a.put o.dst ((vals j).den E') := by rw [hfact.1, den_undef]
          rw [e0]
          cases he : effOp T o.op with
          | true =>
            have hkj := hrankj he
            have h2 := hfact.2 he
            subst hkj
            exact hnew (rank T ops j + 1) E' w (hranksz he) (hekE he) (by rw [h2]; exact hr') (by rw [h2]; exact hs') (by rw [h2]; exact hput)
          | false => exact hnew k E' w hk (hekN he) hr' hs' hput
        · next hw =>
          have hw' : wantedI ops fr'.tm o = true := by
            rw [hwant]
            cases hx : wantedI ops (frAt ops vals fr j).tm o with
            | true => rfl
            | false => exact absurd hx hw
          split at hfact
          · next he =>
            have hkj := hrankj he
            subst hkj
            rcases hfact with hfact | ⟨c, fo, fv, vs, hop2, hc, hfv, hvs, hcl2⟩
            · rw [← iop_congr hops] at hfact
              exact opStep_iop hT hr' ha' ho hw' hd hfact fun E2 w2 hr2 hs2 ha2 => hnew (rank T ops j + 1) E2 w2 (hranksz he) (hekE he) hr2 (hs'.trans hs2) ha2
            · have ho1 : ∀ x ∈ (fo :: c.args.toList), agree fr'.tm (frAt ops vals fr j).tm x := fun x hx => hops x (by
                obtain ⟨callee, args, argTypes⟩ := c
                simp only at hc
                subst hc
                rw [hop2]
                simp only [Op.operands, Call.operands]
                rcases List.mem_cons.1 hx with rfl | hx
                · simp
                · simp [Array.mem_toList_iff.1 hx])
              rw [← evo_congr (ho1 fo (by simp))] at hfv
              rw [← evos_congr (fun x hx => ho1 x (by simp [hx]))] at hvs
              refine opStep_call hr' ha' ho hw' hd hop2 hc hfv hvs hcl2 fun v h' E2 w2 hvh hr2 hs2 ha2 => ?_
              obtain ⟨rfl, rfl⟩ := hvh
              exact hnew (rank T ops j + 1) E2 w2 (hranksz he) (hekE he) hr2 (hs'.trans hs2) ha2
          · next he =>
            have he : effOp T o.op = false := by simpa using he
            have hwin : winB T ops B j k = true := by
              refine List.all_eq_true.2 fun e he2 => ?_
              have hel := List.mem_range.1 he2
              cases hee : effB T ops e with
              | false => rfl
              | true =>
                obtain ⟨oe, hoe⟩ := hsome e hel
                simp only [Bool.not_true, Bool.false_or, Bool.and_eq_true]
                constructor
                · cases hx : ordB B e j with
                  | false => rfl
                  | true =>
                    have := (hek e hel hee).1 (hord' hcl j e o ho hpre hx)
                    simp [Nat.blt_eq, this]
                · cases hx : ordB B j e with
                  | false => rfl
                  | true =>
                    simp only [Bool.not_true, Bool.false_or]
                    refine Nat.ble_eq_true_of_le ?_
                    rcases Nat.lt_or_ge (rank T ops e) k with hlt | hge
                    · exfalso
                      have hde := (hek e hel hee).2 hlt
                      have : listed.getD j false = true := hord' hcl e j oe hoe (fun e' he' hb' => hcl e oe hde hoe e' he' hb') hx
                      rw [this] at hun
                      cases hun
                    · exact hge
            have hf2 := hfact k hk hwin
            rw [← iop_congr hops] at hf2
            exact opStep_iop hT hr' ha' ho hw' hd hf2 fun E2 w2 hr2 hs2 ha2 => hnew k E2 w2 hk (hekN he) hr2 (hs'.trans hs2) ha2
  refine (key ops.size).1 (Array.replicate ops.size false) fr 0 E a _ (by simp) ?_ ?_ rfl (Nat.zero_le _) ?_ hrel0 ⟨Ext.refl _ _, by rw [h0]; exact Nat.le_refl _⟩ (by rw [h0]; exact ha) ?_
  · intro j o hj
    simp [Array.getElem?_replicate] at hj
    split at hj <;> simp at hj
  · intro t
    have : ∀ n, tmD ops vals fr (fun j => (Array.replicate ops.size false).getD j false) n t = fr.tm.tmp t := by
      intro n
      induction n with
      | zero => rfl
      | succ n ihn =>
        simp only [tmD]
        rw [if_neg, ihn]
        rintro ⟨h1, _⟩
        simp [Array.getElem?_replicate] at h1
        split at h1 <;> simp at h1
    exact (this _).symm
  · intro e he _
    simp [Array.getElem?_replicate, he]
  · have : ∀ n, cnt (fun j => (Array.replicate ops.size false).getD j false) n ≤ n := by
      intro n
      induction n with
      | zero => exact Nat.le_refl _
      | succ n ihn => simp only [cnt]; split <;> omega
    exact this _
end
end Sx
