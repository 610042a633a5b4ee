/- A region whose order is drawn, and in which a call panics. (The text follows DrawP.) -/
import Derived.Test.YtjeakifmlmmpaaaGreatDoorSxPan
namespace Sx.Pu
open Go Go.RowKit Sx
set_option linter.unusedSimpArgs false

/-- As 'OpFact', but of the heaps up to 'top' alone. -/
def OpFactK (P : Program) (T : Tr Ty) (pc : Oper → Bool) (ops : Array Oper) (B : List Nat) (vals : Nat → IV) (hs : Nat → H) (fr : Fr) (top j : Nat) (o : Oper) : Prop :=
  if wantedI ops (frAt ops vals fr j).tm o = false then vals j = undefI ∧ (effP T pc o = true → hs (rank T pc ops j + 1) = hs (rank T pc ops j))
  else if effP T pc o = true then
    iop T (frAt ops vals fr j).tm (hs (rank T pc ops j)) o.op = some (vals j, hs (rank T pc ops j + 1)) ∨
    ∃ c fo fv vs, o.op = .call c ∧ c.callee = .value fo ∧ evo (frAt ops vals fr j).tm fo = some fv ∧ evos (frAt ops vals fr j).tm c.args.toList = some vs ∧
      Cl P fv vs (hs (rank T pc ops j)) fun v h' => v = vals j ∧ h' = hs (rank T pc ops j + 1)
  else (∀ k, k ≤ top → winB T pc ops B j k = true → iop T (frAt ops vals fr j).tm (hs k) o.op = some (vals j, hs k)) ∨
    ∃ c fo fv vs, o.op = .call c ∧ c.callee = .value fo ∧ evo (frAt ops vals fr j).tm fo = some fv ∧ evos (frAt ops vals fr j).tm c.args.toList = some vs ∧
      ∀ hh, Cl P fv vs hh fun v h' => v = vals j ∧ h' = hh

theorem tmD_none {ops : Array Oper} {vals : Nat → IV} {fr : Fr} {D : Nat → Bool} {t : Nat} (ht : ∀ j, dstAt ops j ≠ some t) : ∀ n, tmD ops vals fr D n t = fr.tm.tmp t := by
  intro n
  induction n with
  | zero => rfl
  | succ n ih =>
    simp only [tmD]
    rw [if_neg (fun h => ht n h.2), ih]

/-- Operation kp is a call that panics. -/
def PanFact (P : Program) (T : Tr Ty) (pc : Oper → Bool) (ops : Array Oper) (vals : Nat → IV) (hs : Nat → H) (fr : Fr) (Q : Out → Fr → H → Prop) (kp : Nat) : Prop :=
  ∃ o, ops[kp]? = some o ∧ wantedI ops (frAt ops vals fr kp).tm o = true ∧ effP T pc o = true ∧
    ∃ c fo fv vs v hp, o.op = .call c ∧ c.callee = .value fo ∧ evo (frAt ops vals fr kp).tm fo = some fv ∧ evos (frAt ops vals fr kp).tm c.args.toList = some vs ∧
      ClX P fv vs (hs (rank T pc ops kp)) (fun _ _ => False) (fun x h' => x = v ∧ h' = hp) ∧ ∀ fr', fr'.marks = fr.marks → (∀ t, (∀ j, dstAt ops j ≠ some t) → fr'.tm.tmp t = fr.tm.tmp t) → Q (.panic v) fr' hp

section
variable {P : Program} {T : Tr Ty} {pc : Oper → Bool} (hT : TabOK P T) {rd : Option Nat} {ntmps : Nat} {Q : Out → Fr → H → Prop} {fr : Fr} {h : H}

include hT in
theorem Ev.region_drawX {id : Nat} {ops : Array Oper} (hm : P.follows .mixedOrders = true) (vals : Nat → IV) (hs : Nat → H) (h0 : hs 0 = h)
    (hord : orderOK T pc ops (befL ops.toList []) = true) (hedge : edgesOK ops = true) (hdst : dstOK ops ntmps = true) (kp : Nat)
    (hkp : PanFact P T pc ops vals hs fr Q kp) (hpost : ∀ j, kp < j → j < ops.size → ordB (befL ops.toList []) kp j = true)
    (hop : ∀ j o, j < kp → ops[j]? = some o → OpFactK P T pc ops (befL ops.toList []) vals hs fr (rank T pc ops kp) j o) : Ev P rd ntmps (.region id ops true) Q fr h := by
  intro w0 E w a hr hrd ha
  refine wpIn_region_any hm ?_
  generalize hB : befL ops.toList [] = B at hord hop hpost
  obtain ⟨okp, hokp, hwkp, hekp, hpan⟩ := hkp
  have hkplt := (Array.getElem?_eq_some_iff.1 hokp).1
  have heffkp : effB T pc ops kp = true := by simp [effB, hokp, hekp]
  -- what the check gives
  have hdst' : ∀ (j : Nat) (o : Oper), ops[j]? = some o → ∀ d, o.dst = some d → d < ntmps := fun j o ho d hd => by
    have := Array.all_eq_true_iff_forall_mem.1 hdst o (Array.mem_of_getElem? ho)
    rw [hd] at this
    simpa [Nat.blt_eq] using this
  have hpair : ∀ (i j : Nat) (a b : Oper), i < j → ops[i]? = some a → ops[j]? = some b →
      (∀ d, a.dst = some d → d ∈ namesOf ops b → ordB B i j = true) ∧ (∀ d, b.dst = some d → d ∈ namesOf ops a → ordB B i j = true) ∧ (effP T pc a = true → effP T pc b = true → ordB B i j = true) := by
    intro i j a b hij hi hj
    have h1 := List.all_eq_true.1 hord j (List.mem_range.2 (Array.getElem?_eq_some_iff.1 hj).1)
    have h2 := List.all_eq_true.1 h1 i (List.mem_range.2 hij)
    simp only [hi, hj, Bool.and_eq_true] at h2
    refine ⟨fun d hd hn => ?_, fun d hd hn => ?_, fun e1 e2 => ?_⟩
    · have := h2.1.1; rw [hd] at this; simpa [hn] using this
    · have := h2.1.2; rw [hd] at this; simpa [hn] using this
    · have := h2.2; simpa [e1, e2] using this
  have hord' : ∀ {D : Nat → Prop}, Closed ops D → ∀ (j i : Nat) (o : Oper), ops[j]? = some o → (∀ e ∈ o.after, Region.binds .any e = true → D e.on) → ordB B i j = true → D i := by
    intro D hc j i o ho hd hx
    rw [← hB] at hx
    exact closed_ord hc j i o ho hd hx
  have hrel0 : Rel P w0 E (hs 0) { w with drawn := w.drawn + 1 } := by rw [h0]; exact hr.drew _
  have hedge' : ∀ j o, ops[j]? = some o → ∀ e ∈ o.after, Region.binds .any e = true → e.on < j := by
    intro j o ho e he hb
    have h1 := List.all_eq_true.1 hedge j (List.mem_range.2 (Array.getElem?_eq_some_iff.1 ho).1)
    simp only [ho] at h1
    have := Array.all_eq_true_iff_forall_mem.1 h1 e he
    simpa [hb, Nat.blt_eq] using this
  have hsome : ∀ j, j < ops.size → ∃ o, ops[j]? = some o := fun j hj => ⟨_, Array.getElem?_eq_getElem hj⟩
  -- the invariant
  have key : ∀ (fuel : Nat) (listed : Array Bool) (fr' : Fr) (k : Nat) (E' : Env) (a : Act) (w : World),
      listed.size = ops.size → listed.getD kp false = false →
      Closed ops (fun j => listed.getD j false = true) →
      (∀ t, fr'.tm.tmp t = tmD ops vals fr (fun j => listed.getD j false) ops.size t) → fr'.marks = fr.marks →
      k ≤ rank T pc ops ops.size → (∀ e, e < ops.size → effB T pc ops e = true → (listed.getD e false = true ↔ rank T pc ops e < k)) →
      Rel P w0 E' (hs k) w → Step E h E' (hs k) → ARel E' (hs k).next ntmps fr' a →
      cnt (fun j => listed.getD j false) ops.size ≤ fuel →
      wpAnyIn (Wd (rd.map E.ρ)) 0 P .any ops (Post P w0 E h ntmps Q) fuel listed a w := by
    intro fuel
    induction fuel with
    | zero =>
      intro listed fr' k E' a w hsz hkl hcl htm hmk hk hek hr' hs' ha' hfuel
      have hall := cnt_zero ops.size (Nat.le_zero.1 hfuel)
      rw [hall kp hkplt] at hkl
      cases hkl
    | succ fuel ih =>
      intro listed fr' k E' a w hsz hkl hcl htm hmk hk hek hr' hs' ha' hfuel
      have hgd : ∀ j, j < ops.size → listed.getD j true = listed.getD j false := fun j hj => by
        rw [Array.getD_eq_getD_getElem?, Array.getD_eq_getD_getElem?, Array.getElem?_eq_getElem (by omega)]; rfl
      refine ⟨fun hnil => ?_, ?_⟩
      · -- none is ready: all have run
        exfalso
        suffices hall : ∀ i, i < ops.size → listed.getD i false = true by
          rw [hall kp hkplt] at hkl
          cases hkl
        intro i hi
        induction i using Nat.strongRecOn with
        | _ i ihi =>
          cases hd : listed.getD i false with
          | true => rfl
          | false =>
            exfalso
            obtain ⟨o, ho⟩ := hsome i hi
            have : i ∈ Region.ready .any ops listed := mem_ready.2 ⟨by rw [hgd i hi]; exact hd, o, ho, fun e he hb => ihi e.on (hedge' i o ho e he hb) (by have := hedge' i o ho e he hb; omega)⟩
            rw [hnil] at this
            cases this
      · intro j hj
        obtain ⟨hun0, o, ho, hpre⟩ := mem_ready.1 hj
        have hjlt := (Array.getElem?_eq_some_iff.1 ho).1
        have hun : listed.getD j false = false := by rw [← hgd j hjlt]; exact hun0
        have hktop : k ≤ rank T pc ops kp := by
          rcases Nat.lt_or_ge (rank T pc ops kp) k with hlt | hge
          · have := (hek kp hkplt heffkp).2 hlt
            rw [hkl] at this
            cases this
          · exact hge
        have hdj : dstAt ops j = o.dst := by simp [dstAt, ho]
        -- a later writer or reader of the same temporaries has not run
        have hafter : ∀ i oi, j < i → ops[i]? = some oi → listed.getD i false = true → ordB B j i = true → False := by
          intro i oi hji hoi hdi hord2
          have : listed.getD j false = true := hord' hcl i j oi hoi (fun e he hb => hcl i oi hdi hoi e he hb) hord2
          rw [this] at hun
          cases hun
        have hagree : ∀ t, t ∈ namesOf ops o → fr'.tm.tmp t = (frAt ops vals fr j).tm.tmp t := by
          intro t ht
          rw [htm, frAt_tmp]
          refine tmD_eq ops vals fr _ t j ops.size (by omega) fun i hi hd => ?_
          obtain ⟨oi, hoi⟩ := hsome i hi
          have hd' : oi.dst = some t := by simpa [dstAt, hoi] using hd
          constructor
          · intro hdi
            rcases Nat.lt_trichotomy i j with h1 | h1 | h1
            · exact h1
            · subst h1; rw [hdi] at hun; cases hun
            · exact (hafter i oi h1 hoi hdi ((hpair j i o oi h1 ho hoi).2.1 t hd' ht)).elim
          · intro hij
            exact hord' hcl j i o ho hpre ((hpair i j oi o hij hoi ho).1 t hd' ht)
        have hops : ∀ x ∈ o.op.operands, agree fr'.tm (frAt ops vals fr j).tm x := fun x hx t ht => by
          refine hagree t ?_
          subst ht
          simp only [namesOf, List.mem_append]
          exact .inl (.inr (List.mem_filterMap.2 ⟨.tmp t, Array.mem_toList_iff.2 hx, rfl⟩))
        have hwant : wantedI ops fr'.tm o = wantedI ops (frAt ops vals fr j).tm o := by
          refine wantedI_congr fun g b d hg hd => hagree d ?_
          simp only [namesOf, List.mem_append, hg]
          exact .inr (by simp [hd])
        -- the new state
        have hset : ∀ i, (listed.setIfInBounds j true).getD i false = if i = j then true else listed.getD i false := fun i => by
          rw [Array.getD_eq_getD_getElem?, Array.getElem?_setIfInBounds]
          by_cases e : j = i
          · subst e; simp [hsz, hjlt]
          · rw [if_neg e, if_neg (fun hh => e hh.symm), Array.getD_eq_getD_getElem?]
        have hnew : j ≠ kp → ∀ (k' : Nat) (E2 : Env) (w2 : World), k' ≤ rank T pc ops ops.size → (∀ e, e < ops.size → effB T pc ops e = true → ((if e = j then true else listed.getD e false) = true ↔ rank T pc ops e < k')) →
            Rel P w0 E2 (hs k') w2 → Step E h E2 (hs k') → ARel E2 (hs k').next ntmps (fr'.put o.dst (vals j)) (a.put o.dst ((vals j).den E2)) →
            wpAnyIn (Wd (rd.map E.ρ)) 0 P .any ops (Post P w0 E h ntmps Q) fuel (listed.setIfInBounds j true) (a.put o.dst ((vals j).den E2)) w2 := by
          intro hjk k' E2 w2 hk' hek' hr2 hs2 ha2
          refine ih (listed.setIfInBounds j true) (fr'.put o.dst (vals j)) k' E2 _ w2 (by simp [hsz]) (by rw [hset, if_neg (fun e => hjk e.symm)]; exact hkl) ?_ ?_ ?_ hk' ?_ hr2 hs2 ha2 ?_
          · intro i oi hdi hoi e he hb
            rw [hset] at hdi ⊢
            by_cases e1 : e.on = j
            · rw [if_pos e1]
            · rw [if_neg e1]
              by_cases e2 : i = j
              · subst e2
                rw [ho] at hoi
                cases hoi
                exact hpre e he hb
              · rw [if_neg e2] at hdi
                exact hcl i oi hdi hoi e he hb
          · intro t
            rw [tmD_add ops vals fr (D := fun j => listed.getD j false) (j := j) (fun i => hset i) ops.size (fun hjt i hi hji hd => ?_)]
            · unfold Fr.put
              rw [hdj]
              cases hdst2 : o.dst with
              | none => simp [htm t]
              | some d =>
                simp only [tmp_set, Option.some.injEq, hjlt, true_and]
                rw [htm t]
            · obtain ⟨oi, hoi⟩ := hsome i hi
              cases hdi : listed.getD i false with
              | false => rfl
              | true =>
                exfalso
                have hd' : oi.dst = some t := by simpa [dstAt, hoi] using hd
                exact hafter i oi hji hoi hdi ((hpair j i o oi hji ho hoi).2.1 t hd' (by simp only [namesOf, List.mem_append]; exact .inl (.inl (by rw [← hdj, hjt]; simp))))
          · unfold Fr.put
            split <;> exact hmk
          · intro e he hee
            rw [hset]
            exact hek' e he hee
          · have := cnt_add (D := fun j => listed.getD j false) hun (fun i => hset i) ops.size
            rw [if_pos hjlt] at this
            omega
        have heff : effB T pc ops j = effP T pc o := by simp [effB, ho]
        have hrankj : effP T pc o = true → k = rank T pc ops j := by
          intro he
          have h1 : ¬ rank T pc ops j < k := fun hlt => by
            have := (hek j hjlt (by rw [heff]; exact he)).2 hlt
            rw [this] at hun
            cases hun
          rcases Nat.lt_or_ge k (rank T pc ops j) with h2 | h2
          · exfalso
            obtain ⟨e, e1, e2, e3⟩ := rank_at T pc ops j k h2
            obtain ⟨oe, hoe⟩ := hsome e (by omega)
            have he2 : effP T pc oe = true := by simpa [effB, hoe] using e2
            have := hord' hcl j e o ho hpre ((hpair e j oe o e1 hoe ho).2.2 he2 he)
            have := (hek e (by omega) e2).1 this
            omega
          · omega
        have hranksz : effP T pc o = true → rank T pc ops j + 1 ≤ rank T pc ops ops.size := fun he => rank_lt T pc ops hjlt (by rw [heff]; exact he)
        have hekE : effP T pc o = true → ∀ e, e < ops.size → effB T pc ops e = true → ((if e = j then true else listed.getD e false) = true ↔ rank T pc ops e < rank T pc ops j + 1) := by
          intro he e hel hee
          have hkj := hrankj he
          by_cases e1 : e = j
          · subst e1; simp
          · rw [if_neg e1, hek e hel hee, hkj]
            rcases Nat.lt_or_gt_of_ne e1 with h1 | h1
            · have := rank_lt T pc ops h1 hee; omega
            · have := rank_lt T pc ops h1 (by rw [heff]; exact he); omega
        have hekN : effP T pc o = false → ∀ e, e < ops.size → effB T pc ops e = true → ((if e = j then true else listed.getD e false) = true ↔ rank T pc ops e < k) := by
          intro he e hel hee
          by_cases e1 : e = j
          · subst e1; rw [heff, he] at hee; cases hee
          · rw [if_neg e1]; exact hek e hel hee
        have hd := hdst' j o ho
        rcases Nat.lt_trichotomy kp j with hgt | heq | hlt'
        · exfalso
          have := hord' hcl j kp o ho hpre (hpost j hgt hjlt)
          rw [hkl] at this
          cases this
        · subst heq
          rw [ho] at hokp
          cases hokp
          obtain ⟨c, fo, fv, vs, v, hp, hop2, hc, hfv, hvs, hcl2, hq⟩ := hpan
          have hkj := hrankj hekp
          subst hkj
          have ho1 : ∀ x ∈ (fo :: c.args.toList), agree fr'.tm (frAt ops vals fr kp).tm x := fun x hx => hops x (by
            obtain ⟨callee, args, argTypes⟩ := c
            simp only at hc
            subst hc
            rw [hop2]
            simp only [Op.operands, Call.operands]
            rcases List.mem_cons.1 hx with rfl | hx
            · simp
            · simp [Array.mem_toList_iff.1 hx])
          rw [← evo_congr (ho1 fo (by simp))] at hfv
          rw [← evos_congr (fun x hx => ho1 x (by simp [hx]))] at hvs
          refine opStep_callX hr' ha' ho (by rw [hwant]; exact hwkp) hd hop2 hc hfv hvs hcl2 (fun v h' E2 w2 hvh _ _ _ => hvh.elim) fun x h' E2 w2 hxh hr2 hs2 ha2 => ?_
          obtain ⟨rfl, rfl⟩ := hxh
          exact ⟨.panic _, fr', _, E2, rfl, hr2, hs'.trans hs2, ha2, hq fr' hmk fun t ht => by rw [htm t]; exact tmD_none ht _⟩
        have hjk : j ≠ kp := by omega
        have hfact := hop j o hlt' ho
        unfold OpFactK at hfact
        split at hfact
        · next hw =>
          rw [← hwant] at hw
          refine opStep_skip ha' ho hw ?_
          have hput := ha'.put (v := undefI) hd (by simp [undefI, IV.under, underL])
          rw [← hfact.1] at hput
          have e0 : a.put o.dst undef = a.put o.dst ((vals j).den E') := by rw [hfact.1, den_undef]
          rw [e0]
          cases he : effP T pc o with
          | true =>
            have hkj := hrankj he
            have h2 := hfact.2 he
            subst hkj
            exact hnew hjk (rank T pc ops j + 1) E' w (hranksz he) (hekE he) (by rw [h2]; exact hr') (by rw [h2]; exact hs') (by rw [h2]; exact hput)
          | false => exact hnew hjk k E' w hk (hekN he) hr' hs' hput
        · next hw =>
          have hw' : wantedI ops fr'.tm o = true := by
            rw [hwant]
            cases hx : wantedI ops (frAt ops vals fr j).tm o with
            | true => rfl
            | false => exact absurd hx hw
          split at hfact
          · next he =>
            have hkj := hrankj he
            subst hkj
            rcases hfact with hfact | ⟨c, fo, fv, vs, hop2, hc, hfv, hvs, hcl2⟩
            · rw [← iop_congr hops] at hfact
              exact opStep_iop hT hr' ha' ho hw' hd hfact fun E2 w2 hr2 hs2 ha2 => hnew hjk (rank T pc ops j + 1) E2 w2 (hranksz he) (hekE he) hr2 (hs'.trans hs2) ha2
            · have ho1 : ∀ x ∈ (fo :: c.args.toList), agree fr'.tm (frAt ops vals fr j).tm x := fun x hx => hops x (by
                obtain ⟨callee, args, argTypes⟩ := c
                simp only at hc
                subst hc
                rw [hop2]
                simp only [Op.operands, Call.operands]
                rcases List.mem_cons.1 hx with rfl | hx
                · simp
                · simp [Array.mem_toList_iff.1 hx])
              rw [← evo_congr (ho1 fo (by simp))] at hfv
              rw [← evos_congr (fun x hx => ho1 x (by simp [hx]))] at hvs
              refine opStep_call hr' ha' ho hw' hd hop2 hc hfv hvs hcl2 fun v h' E2 w2 hvh hr2 hs2 ha2 => ?_
              obtain ⟨rfl, rfl⟩ := hvh
              exact hnew hjk (rank T pc ops j + 1) E2 w2 (hranksz he) (hekE he) hr2 (hs'.trans hs2) ha2
          · next he =>
            have he : effP T pc o = false := by simpa using he
            have hwin : winB T pc ops B j k = true := by
              refine List.all_eq_true.2 fun e he2 => ?_
              have hel := List.mem_range.1 he2
              cases hee : effB T pc ops e with
              | false => rfl
              | true =>
                obtain ⟨oe, hoe⟩ := hsome e hel
                simp only [Bool.not_true, Bool.false_or, Bool.and_eq_true]
                constructor
                · cases hx : ordB B e j with
                  | false => rfl
                  | true =>
                    have := (hek e hel hee).1 (hord' hcl j e o ho hpre hx)
                    simp [Nat.blt_eq, this]
                · cases hx : ordB B j e with
                  | false => rfl
                  | true =>
                    simp only [Bool.not_true, Bool.false_or]
                    refine Nat.ble_eq_true_of_le ?_
                    rcases Nat.lt_or_ge (rank T pc ops e) k with hlt | hge
                    · exfalso
                      have hde := (hek e hel hee).2 hlt
                      have : listed.getD j false = true := hord' hcl e j oe hoe (fun e' he' hb' => hcl e oe hde hoe e' he' hb') hx
                      rw [this] at hun
                      cases hun
                    · exact hge
            rcases hfact with hfact | ⟨c, fo, fv, vs, hop2, hc, hfv, hvs, hcl2⟩
            case inr =>
              have ho1 : ∀ x ∈ (fo :: c.args.toList), agree fr'.tm (frAt ops vals fr j).tm x := fun x hx => hops x (by
                obtain ⟨callee, args, argTypes⟩ := c
                simp only at hc
                subst hc
                rw [hop2]
                simp only [Op.operands, Call.operands]
                rcases List.mem_cons.1 hx with rfl | hx
                · simp
                · simp [Array.mem_toList_iff.1 hx])
              rw [← evo_congr (ho1 fo (by simp))] at hfv
              rw [← evos_congr (fun x hx => ho1 x (by simp [hx]))] at hvs
              refine opStep_call hr' ha' ho hw' hd hop2 hc hfv hvs (hcl2 (hs k)) fun v h' E2 w2 hvh hr2 hs2 ha2 => ?_
              obtain ⟨rfl, rfl⟩ := hvh
              exact hnew hjk k E2 w2 hk (hekN he) hr2 (hs'.trans hs2) ha2
            have hf2 := hfact k hktop hwin
            rw [← iop_congr hops] at hf2
            exact opStep_iop hT hr' ha' ho hw' hd hf2 fun E2 w2 hr2 hs2 ha2 => hnew hjk k E2 w2 hk (hekN he) hr2 (hs'.trans hs2) ha2
  refine key ops.size (Array.replicate ops.size false) fr 0 E a _ (by simp) (by rw [Array.getD_eq_getD_getElem?, Array.getElem?_replicate]; split <;> rfl) ?_ ?_ rfl (Nat.zero_le _) ?_ hrel0 ⟨Ext.refl _ _, by rw [h0]; exact Nat.le_refl _⟩ (by rw [h0]; exact ha) ?_
  · intro j o hj
    simp [Array.getElem?_replicate] at hj
    split at hj <;> simp at hj
  · intro t
    have : ∀ n, tmD ops vals fr (fun j => (Array.replicate ops.size false).getD j false) n t = fr.tm.tmp t := by
      intro n
      induction n with
      | zero => rfl
      | succ n ihn =>
        simp only [tmD]
        rw [if_neg, ihn]
        rintro ⟨h1, _⟩
        simp [Array.getElem?_replicate] at h1
        split at h1 <;> simp at h1
    exact (this _).symm
  · intro e he _
    simp [Array.getElem?_replicate, he]
  · have : ∀ n, cnt (fun j => (Array.replicate ops.size false).getD j false) n ≤ n := by
      intro n
      induction n with
      | zero => exact Nat.le_refl _
      | succ n ihn => simp only [cnt]; split <;> omega
    exact this _
/-- A run from operation i on, told by its trace. -/
theorem TRun.factsK {P : Program} {T : Tr Ty} {pc : Oper → Bool} {ops : Array Oper} {vals : Nat → IV} {hh : Nat → H} {fr0 : Fr} {l : List Oper} {fr h tr fr' h'} (r : TRun P T pc ops l fr h tr fr' h') :
    ∀ i, (∀ j, j < l.length → l[j]? = ops[i + j]?) → i + l.length ≤ ops.size → fr = frAt ops vals fr0 i → h = hh i → (∀ j x, tr[j]? = some x → vals (i + j) = x.1 ∧ hh (i + j + 1) = x.2) →
    (∀ j o, i ≤ j → j < i + l.length → ops[j]? = some o → StepF P T pc ops o (frAt ops vals fr0 j) (hh j) (vals j) (hh (j + 1))) ∧ fr' = frAt ops vals fr0 (i + l.length) ∧ h' = hh (i + l.length) := by
  have one : ∀ (o : Oper) (l : List Oper) (fr : Fr) (h h1 : H) (v : IV) (tr : List (IV × H)) (fr' : Fr) (h' : H) (i : Nat), StepF P T pc ops o fr h v h1 →
      (∀ i, (∀ j, j < l.length → l[j]? = ops[i + j]?) → i + l.length ≤ ops.size → fr.put o.dst v = frAt ops vals fr0 i → h1 = hh i → (∀ j x, tr[j]? = some x → vals (i + j) = x.1 ∧ hh (i + j + 1) = x.2) →
        (∀ j o, i ≤ j → j < i + l.length → ops[j]? = some o → StepF P T pc ops o (frAt ops vals fr0 j) (hh j) (vals j) (hh (j + 1))) ∧ fr' = frAt ops vals fr0 (i + l.length) ∧ h' = hh (i + l.length)) →
      (∀ j, j < (o :: l).length → (o :: l)[j]? = ops[i + j]?) → i + (o :: l).length ≤ ops.size → fr = frAt ops vals fr0 i → h = hh i → (∀ j x, ((v, h1) :: tr)[j]? = some x → vals (i + j) = x.1 ∧ hh (i + j + 1) = x.2) →
        (∀ j o, i ≤ j → j < i + (o :: l).length → ops[j]? = some o → StepF P T pc ops o (frAt ops vals fr0 j) (hh j) (vals j) (hh (j + 1))) ∧ fr' = frAt ops vals fr0 (i + (o :: l).length) ∧ h' = hh (i + (o :: l).length) := by
    intro o l fr h h1 v tr fr' h' i hs ih hl hn hf hh0 ht
    have ho : ops[i]? = some o := by simpa using (hl 0 (by simp)).symm
    have h0 := ht 0 (v, h1) rfl
    simp only [Nat.add_zero] at h0
    have hd : dstAt ops i = o.dst := by simp [dstAt, ho]
    have := ih (i + 1) (fun j hj => by have := hl (j + 1) (by simpa using hj); rw [show i + 1 + j = i + (j + 1) by omega]; simpa using this) (by simp at hn; omega)
      (by simp only [frAt]; rw [hd, ← hf, h0.1]) h0.2.symm (fun j x hx => by have := ht (j + 1) x (by simpa using hx); rw [show i + 1 + j = i + (j + 1) by omega]; exact this)
    have hlen : i + (o :: l).length = i + 1 + l.length := by simp; omega
    rw [hlen]
    refine ⟨fun j o' hj hjl ho' => ?_, this.2⟩
    by_cases e : j = i
    · subst e
      rw [ho] at ho'
      cases ho'
      rw [← hf, ← hh0, h0.1, h0.2]
      exact hs
    · exact this.1 j o' (by omega) (by simp at hjl; omega) ho'
  induction r with
  | nil =>
    intro i hl hn hf hh0 ht
    exact ⟨fun j o hj hjl ho => absurd hjl (by simp; omega), hf, hh0⟩
  | skip hw _ ih => intro i; exact one _ _ _ _ _ _ _ _ _ i (.inl ⟨hw, rfl, rfl⟩) ih
  | op hw ho _ ih => intro i; exact one _ _ _ _ _ _ _ _ _ i (.inr (.inl ⟨hw, ho⟩)) ih
  | call hw hp ho hc hfv hvs hcl _ ih => intro i; exact one _ _ _ _ _ _ _ _ _ i (.inr (.inr (.inl ⟨hw, hp, _, _, _, _, ho, hc, hfv, hvs, hcl⟩))) ih
  | pure hw hp ho hc hfv hvs hcl _ ih => intro i; exact one _ _ _ _ _ _ _ _ _ i (.inr (.inr (.inr ⟨hw, hp, rfl, _, _, _, _, ho, hc, hfv, hvs, hcl⟩))) ih


/-- A drawn region up to a call that panics. -/
def chkX (T : Tr Ty) (pc : Oper → Bool) (ops : Array Oper) (B : List Nat) (kp : Nat) : Bool :=
  (List.range kp).all fun j => match ops[j]? with
    | some o => effOp T o.op || freeOp T o.op || (List.range (rank T pc ops kp + 1)).all fun k => Nat.beq k (rank T pc ops j) || !winB T pc ops B j k
    | none => true

def DynX (T : Tr Ty) (pc : Oper → Bool) (ops : Array Oper) (fr : Fr) (h : H) (tr : List (IV × H)) (kp : Nat) : Prop :=
  ∀ (j : Nat) (o : Oper) (k : Nat), j < kp → ops[j]? = some o → wantedI ops (frAt ops (vAt tr) fr j).tm o = true → effP T pc o = false → pc o = false → freeOp T o.op = false → k ≤ rank T pc ops kp → k ≠ rank T pc ops j →
    winB T pc ops (befL ops.toList []) j k = true → iop T (frAt ops (vAt tr) fr j).tm (hsAt T pc ops h tr k) o.op = some (vAt tr j, hsAt T pc ops h tr k)

theorem DynX.of_chk {ops : Array Oper} {tr : List (IV × H)} {kp : Nat} (hc : chkX T pc ops (befL ops.toList []) kp = true) : DynX T pc ops fr h tr kp := by
  intro j o k hj ho _ he hp hf hk hk' hwin
  have he : effOp T o.op = false := by simpa [effP, hp] using he
  exfalso
  have h1 := List.all_eq_true.1 hc j (List.mem_range.2 hj)
  simp only [ho] at h1
  simp only [Bool.or_eq_true, he, hf, false_or, Bool.false_eq_true] at h1
  have := List.all_eq_true.1 h1 k (List.mem_range.2 (by omega))
  simp only [hwin, Bool.not_true, Bool.or_false] at this
  exact hk' (Nat.eq_of_beq_eq_true this)

def postX (ops : Array Oper) (B : List Nat) (kp : Nat) : Bool := (List.range ops.size).all fun j => Nat.ble j kp || ordB B kp j

include hT in
theorem Ev.region_textX {id : Nat} {ops : Array Oper} (hm : P.follows .mixedOrders = true) (hpc : ∀ o, pc o = true → ∃ c fo, o.op = .call c ∧ c.callee = .value fo) (hok : drawS T pc ops ntmps = true) {kp : Nat} {tr fr' h'}
    (r : TRun P T pc ops (ops.toList.take kp) fr h tr fr' h') (hdyn : DynX T pc ops fr h tr kp) (hpo : postX ops (befL ops.toList []) kp = true) {okp : Oper} (hokp : ops[kp]? = some okp) (hwkp : wantedI ops fr'.tm okp = true)
    (hekp : effP T pc okp = true) {c : Call} {fo : Operand} {fv : IV} {vs : List IV} {v : Value} {hp : H} (hop : okp.op = .call c) (hc : c.callee = .value fo) (hfv : evo fr'.tm fo = some fv) (hvs : evos fr'.tm c.args.toList = some vs)
    (hcl : ClX P fv vs h' (fun _ _ => False) (fun x h2 => x = v ∧ h2 = hp)) (hq : ∀ fr2, fr2.marks = fr.marks → (∀ t, (∀ j, dstAt ops j ≠ some t) → fr2.tm.tmp t = fr.tm.tmp t) → Q (.panic v) fr2 hp) : Ev P rd ntmps (.region id ops true) Q fr h := by
  have hpost : ∀ j, kp < j → j < ops.size → ordB (befL ops.toList []) kp j = true := fun j hj hjs => by
    have := List.all_eq_true.1 hpo j (List.mem_range.2 hjs)
    simp only [Bool.or_eq_true] at this
    rcases this with h | h
    · have := Nat.le_of_ble_eq_true h; omega
    · exact h
  simp only [drawS, Bool.and_eq_true] at hok
  obtain ⟨⟨h1, h2⟩, h3⟩ := hok
  have hlen := r.length
  have hkplt := (Array.getElem?_eq_some_iff.1 hokp).1
  have hlk : (ops.toList.take kp).length = kp := by simp; omega
  rw [hlk] at hlen
  have F := TRun.factsK (vals := vAt tr) (hh := hAt h tr) (fr0 := fr) r 0 (fun j hj => by rw [hlk] at hj; simp [List.getElem?_take, hj]) (by rw [hlk]; omega) rfl rfl (fun j x hx => by simp [vAt, hAt, hx])
  rw [hlk, Nat.zero_add] at F
  obtain ⟨F1, F2, F3⟩ := F
  have notpc : ∀ (o : Oper) (tm : Tm) (h : H) (v : IV) (h1 : H), iop T tm h o.op = some (v, h1) → effP T pc o = false → pc o = false ∧ effOp T o.op = false := fun o tm h v h1 hi he => by
    have hp : pc o = false := by
      cases hp : pc o with
      | false => rfl
      | true =>
        obtain ⟨c, fo, hop, hc⟩ := hpc o hp
        rw [hop] at hi
        simp only [iop, hc] at hi
        cases hi
    refine ⟨hp, ?_⟩
    simpa [effP, hp] using he
  have hsame : ∀ j o, j < kp → ops[j]? = some o → effP T pc o = false → hAt h tr (j + 1) = hAt h tr j := by
    intro j o hjk ho he
    rcases F1 j o (Nat.zero_le _) hjk ho with ⟨_, _, hh⟩ | ⟨_, hh⟩ | ⟨_, hp, c, fo, fv, vs, hop, hc, _⟩ | ⟨_, _, hh, _⟩
    · exact hh
    · exact iop_eff (notpc o _ _ _ _ hh he).2 hh
    · obtain ⟨callee, args, argTypes⟩ := c
      simp only at hc
      subst hc
      simp only [effP, hp, hop, effOp, Bool.not_false, Bool.and_true] at he
      cases he
    · exact hh
  have hrank : ∀ j i, i ≤ j → j ≤ kp → rank T pc ops i = rank T pc ops j → hAt h tr i = hAt h tr j := by
    intro j
    induction j with
    | zero => intro i hi _ _; have : i = 0 := by omega
              rw [this]
    | succ j ih =>
      intro i hi hj hr
      by_cases e : i = j + 1
      · rw [e]
      · have m1 := rank_le T pc ops (show i ≤ j by omega)
        have m2 : rank T pc ops j ≤ rank T pc ops (j + 1) := rank_le T pc ops (Nat.le_succ j)
        have hrj : rank T pc ops j = rank T pc ops (j + 1) := by omega
        rw [ih i (by omega) (by omega) (by omega)]
        obtain ⟨o, ho⟩ : ∃ o, ops[j]? = some o := ⟨_, Array.getElem?_eq_getElem (show j < ops.size by omega)⟩
        refine (hsame j o (by omega) ho ?_).symm
        cases he : effP T pc o with
        | false => rfl
        | true =>
          have : effB T pc ops j = true := by simp [effB, ho, he]
          simp only [rank, this, if_true] at hrj
          omega
  -- the heap of each rank
  let hs : Nat → H := hsAt T pc ops h tr
  have hhs : ∀ j, j ≤ kp → hs (rank T pc ops j) = hAt h tr j := by
    intro j hj
    simp only [hs, hsAt]
    cases hf : (List.range (ops.size + 1)).find? fun i => Nat.beq (rank T pc ops i) (rank T pc ops j) with
    | none =>
      have := List.find?_eq_none.1 hf j (List.mem_range.2 (by omega))
      simp at this
    | some i =>
      have h5 := List.find?_some hf
      have h6 := List.mem_range.1 (List.mem_of_find?_eq_some hf)
      have h7 : rank T pc ops i = rank T pc ops j := Nat.eq_of_beq_eq_true h5
      simp only [Option.getD_some]
      have h9 : i ≤ kp := by
        rcases Nat.lt_or_ge kp i with hlt | hge
        · exfalso
          have m1 := rank_lt T pc ops hlt (by simp [effB, hokp, hekp])
          have m2 := rank_le T pc ops hj
          omega
        · exact hge
      rcases Nat.le_total i j with h8 | h8
      · exact hrank j i h8 hj h7
      · exact (hrank i j h8 h9 h7.symm).symm
  refine Ev.region_drawX hT hm (vAt tr) hs ?_ h1 h2 h3 kp ?_ hpost ?_
  · have := hhs 0 (Nat.zero_le _); simpa [rank, hAt] using this
  · refine ⟨okp, hokp, by rw [← F2]; exact hwkp, hekp, c, fo, fv, vs, v, hp, hop, hc, by rw [← F2]; exact hfv, by rw [← F2]; exact hvs, ?_, hq⟩
    rw [hhs kp (Nat.le_refl _), ← F3]
    exact hcl
  · intro j o hjk ho
    have hjlt := (Array.getElem?_eq_some_iff.1 ho).1
    have e0 := hhs j (by omega)
    have e1 : effP T pc o = true → hs (rank T pc ops j + 1) = hAt h tr (j + 1) := fun he => by
      have := hhs (j + 1) hjk
      have hb : effB T pc ops j = true := by simp [effB, ho, he]
      simpa [rank, hb] using this
    unfold OpFactK
    rcases F1 j o (Nat.zero_le _) hjk ho with ⟨hw, hv, hh⟩ | ⟨hw, hh⟩ | ⟨hw, hp, c, fo, fv, vs, hop, hc, hfv, hvs, hcl⟩ | ⟨hw, hp, _, c, fo, fv, vs, hop, hc, hfv, hvs, hcl⟩
    · rw [if_pos hw]
      exact ⟨hv, fun he => by rw [e1 he, e0, hh]⟩
    · rw [if_neg (by rw [hw]; simp)]
      by_cases he : effP T pc o = true
      · rw [if_pos he, e0, e1 he]
        exact .inl hh
      · rw [if_neg he]
        refine .inl ?_
        intro k hk hwin
        by_cases hfree : freeOp T o.op = true
        · exact (iop_free hfree hh).2 _
        · by_cases hk' : k = rank T pc ops j
          · rw [hk', e0]
            have := hsame j o hjk ho (by simpa using he)
            rw [this] at hh
            exact hh
          · exact hdyn j o k hjk ho hw (by simpa using he) (notpc o _ _ _ _ hh (by simpa using he)).1 (by simpa using hfree) hk hk' hwin
    · rw [if_neg (by rw [hw]; simp)]
      have he : effP T pc o = true := by
        obtain ⟨callee, args, argTypes⟩ := c
        simp only at hc
        subst hc
        simp [effP, hp, hop, effOp]
      rw [if_pos he, e0, e1 he]
      exact .inr ⟨c, fo, fv, vs, hop, hc, hfv, hvs, hcl⟩
    · rw [if_neg (by rw [hw]; simp)]
      have he : ¬ effP T pc o = true := by simp [effP, hp]
      rw [if_neg he]
      exact .inr ⟨c, fo, fv, vs, hop, hc, hfv, hvs, hcl⟩
end
end Sx.Pu
