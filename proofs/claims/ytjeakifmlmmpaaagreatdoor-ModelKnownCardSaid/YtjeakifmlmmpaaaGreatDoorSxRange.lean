/- Function bodies, and ranges over functions. -/
import Derived.Test.YtjeakifmlmmpaaaGreatDoorSxCode
namespace Sx
open Go Go.RowKit
set_option linter.unusedSimpArgs false

section
variable {P : Program} {T : Tr Ty} (hT : TabOK P T) {w0 : World} {E : Env} {h : H} {w : World}

theorem setObj_run (P : Program) (w : World) (r : Nat) (o o' : Obj) (ho : w.heap[r]? = some o) (hc : ∀ c e f, o ≠ .cells c e f) : (setObj r o').run P w = .ok () (World.putObj w r o') := by
  unfold setObj
  cases o <;> first | exact absurd rfl (hc _ _ _) | simp only [Sem.run, ho, World.putObj]

theorem Rel.congr {h' : H} (hr : Rel P w0 E h w) (hg : ∀ i x, h'.get i = some x → h.get i = some x) (hn : h'.next = h.next) : Rel P w0 E h' w :=
  ⟨hr.below, fun i x hi => by rw [hn]; exact hr.dom i x (hg i x hi), fun i o wr hi => by rw [hn]; exact hr.obj i o wr (hg _ _ hi), fun i o hi => hr.wr i o (hg _ _ hi),
    fun i j x y hi hj hw he => hr.inj i j x y (hg _ _ hi) (hg _ _ hj) hw he⟩

/-! ### Marks -/
def takeMarks : List Mk → H → Option H
  | [], h => some h
  | .col r :: rs, h => match h.get r with
    | some (.defs false, true) => takeMarks rs (h.kill r)
    | _ => none
  | .call .. :: _, _ => none

theorem takeMark_run (hr : Rel P w0 E h w) {r : Nat} (hg : h.get r = some (.defs false, true)) : ∃ w', (Instr.takeDeferred (E.ρ r)).run P w = .ok [] w' ∧ Rel P w0 E (h.kill r) w' := by
  have ho : w.heap[E.ρ r]? = some (.deferred (some [])) := by simpa [ORel] using (hr.obj _ _ _ hg).1
  refine ⟨World.putObj w (E.ρ r) (.deferred none), ?_, ?_⟩
  · simp only [Instr.takeDeferred, Sem.run_bind, getObj_run P w _ _ ho (by simp), setObj_run P w _ _ _ ho (by simp), Result.andThen_ok, Sem.run_pure]
  · have := (hr.put hg (o' := .defs true) (ob := .deferred none) rfl).kill r
    refine this.congr (fun i x hi => ?_) rfl
    rw [H.get_kill] at hi ⊢
    by_cases e : r = i
    · rw [if_pos e] at hi; cases hi
    · rw [if_neg e] at hi ⊢; rw [H.get_put, if_neg e]; exact hi

def resI (T : Tr Ty) (h : H) (tm : Tm) : List ResultVar → Option (List IV)
  | [] => some []
  | .tmp t :: rs => (resI T h tm rs).map fun vs => tm.tmp t :: vs
  | .cell a t :: rs => match tm.tmp a, T.get t, resI T h tm rs with
    | .ptr b o, some ty, some vs => match loadI h (aggD ty.d) ty.size b o with
      | some v => some (v :: vs)
      | none => none
    | _, _, _ => none

def resV : List IV → IV
  | [v] => v
  | vs => .tup vs

theorem results_mapM (P : Program) (tmps : Array Value) (w : World) : ∀ (rs : List ResultVar) (vs : List Value),
    (rs.mapM fun | .tmp t => pure (tmps.getD t undef) | .cell a t => do loadVar t (← asAddr (tmps.getD a undef)) : Sem (List Value)).run P w = .ok vs w →
    ∀ rsA : Array ResultVar, rsA.toList = rs → (rsA.mapM fun | .tmp t => pure (tmps.getD t undef) | .cell a t => do loadVar t (← asAddr (tmps.getD a undef)) : Sem (Array Value)).run P w = .ok vs.toArray w := by
  intro rs vs h rsA hA
  subst hA
  rw [Array.mapM_eq_mapM_toList]
  simp only [Sem.run_map, h, Result.andThen_ok]

include hT in
theorem resI_run (hr : Rel P w0 E h w) {ntmps : Nat} {tm : Tm} {a : Act} (f : FRel E h.next ntmps tm a) : ∀ {rs : List ResultVar} {vs : List IV}, resI T h tm rs = some vs →
    (rs.mapM fun | .tmp t => pure (a.tmps.getD t undef) | .cell a' t => do loadVar t (← asAddr (a.tmps.getD a' undef)) : Sem (List Value)).run P w = .ok (denL E vs) w ∧ underL h.next vs
  | [], vs, hv => by cases hv; simp [denL, underL]
  | .tmp t :: rs, vs, hv => by
    simp only [resI] at hv
    obtain ⟨us, h1, h2⟩ := map_some hv
    subst h2
    have ih := resI_run hr f h1
    simp only [List.mapM_cons, Sem.run_bind, Sem.run_pure, Result.andThen_ok, ih.1, f.val t, denL, underL, ih.2, f.under t, and_self]
  | .cell a' t :: rs, vs, hv => by
    simp only [resI] at hv
    split at hv
    case h_2 => cases hv
    rename_i b o ty us hp ht hus
    split at hv
    case h_2 => cases hv
    rename_i v hl
    cases hv
    have ih := resI_run hr f hus
    have hld := loadI_run hr (hT _ _ ht) hl
    have hval := f.val a'
    rw [hp] at hval
    simp only [IV.den] at hval
    have hA : (asAddr (a.tmps.getD a' undef)).run P w = .ok ⟨E.ρ b, o, none⟩ w := by rw [hval]; rfl
    simp only [List.mapM_cons, Sem.run_bind, Sem.run_pure, Result.andThen_ok, ih.1, hA, hld.1, denL, underL, ih.2, hld.2, and_self]

include hT in
theorem results_run (hr : Rel P w0 E h w) {ntmps : Nat} {tm : Tm} {a : Act} (f : FRel E h.next ntmps tm a) {fn : Func} {vs : List IV} (hv : resI T h tm fn.results.toList = some vs) :
    (results fn a.tmps).run P w = .ok ((resV vs).den E) w ∧ (resV vs).under h.next := by
  have h1 := resI_run hT hr f hv
  have h2 := results_mapM P a.tmps w _ _ h1.1 fn.results rfl
  have h3 := congrArg (fun r => Result.andThen r (fun (vs : Array Value) w' => Sem.run P (pure (if h : vs.size = 1 then vs[0] else Value.tuple vs)) w')) h2
  constructor
  · refine Eq.trans (b := _) ?_ (h3.trans ?_)
    · unfold results
      rw [Sem.run_bind]
      rfl
    · simp only [Result.andThen_ok, Sem.run_pure]
      congr 1
      cases vs with
      | nil => simp [denL, resV, IV.den]
      | cons v vs =>
        cases vs with
        | nil => simp [denL, resV]
        | cons u us => simp [denL, resV, IV.den]
  · cases vs with
    | nil => simp [resV, IV.under, underL]
    | cons v vs =>
      cases vs with
      | nil => simpa [resV, underL] using h1.2
      | cons u us => simpa [resV, IV.under] using h1.2

/-! ### Bodies -/
def mkTm : List IV → Nat → Tm → Tm
  | [], _, t => t
  | v :: vs, i, t => mkTm vs (i + 1) (t.set i (some v))

theorem mkTm_tmp : ∀ (vs : List IV) (i : Nat) (t : Tm) (j : Nat), (mkTm vs i t).tmp j = if i ≤ j ∧ j < i + vs.length then vs.getD (j - i) undefI else t.tmp j
  | [], i, t, j => by simp only [mkTm, List.length_nil, Nat.add_zero]; rw [if_neg (by omega)]
  | v :: vs, i, t, j => by
    simp only [mkTm]
    rw [mkTm_tmp vs (i + 1) _ j, tmp_set]
    by_cases h1 : i = j
    · subst h1
      rw [if_neg (by omega), if_pos rfl, if_pos (by simp)]
      simp
    · by_cases h2 : i + 1 ≤ j ∧ j < i + 1 + vs.length
      · rw [if_pos h2, if_pos (by simp; omega)]
        obtain ⟨k, hk⟩ : ∃ k, j - i = k + 1 := ⟨j - i - 1, by omega⟩
        rw [hk, show j - (i + 1) = k by omega]
        simp
      · rw [if_neg h2, if_neg h1, if_neg (by simp; omega)]

theorem frame_mk {n ntmps : Nat} {args : List IV} (hu : underL n args) (hn : args.length ≤ ntmps) :
    ARel E n ntmps ⟨mkTm args 0 .leaf, []⟩ { tmps := (denL E args).toArray ++ Array.replicate (ntmps - (denL E args).toArray.size) undef, defers := [] } := by
  have ht : ∀ j, (mkTm args 0 .leaf).tmp j = args.getD j undefI := fun j => by
    rw [mkTm_tmp]
    by_cases hj : j < args.length
    · rw [if_pos (by omega), Nat.sub_zero]
    · rw [if_neg (by omega)]
      simp [Tr.tmp, Tr.get, List.getD, List.getElem?_eq_none (Nat.le_of_not_lt hj)]
  refine ⟨⟨by simp [length_denL]; omega, fun j => ?_, fun j => ?_⟩, rfl, by simp⟩
  · rw [ht]
    rw [Array.getD_eq_getD_getElem?]
    by_cases hj : j < args.length
    · rw [Array.getElem?_append_left (by simp [length_denL]; omega)]
      simp [denL_eq, List.getD, List.getElem?_eq_getElem hj]
    · rw [Array.getElem?_append_right (by simp [length_denL]; omega)]
      simp only [List.getD, List.getElem?_eq_none (Nat.le_of_not_lt hj), Option.getD_none, den_undef]
      rw [Array.getElem?_replicate]
      split <;> rfl
  · rw [ht]
    by_cases hj : j < args.length
    · simp only [List.getD, List.getElem?_eq_getElem hj, Option.getD_some]
      exact (underL_iff _ _).1 hu _ (List.getElem_mem hj)
    · simp [List.getD, List.getElem?_eq_none (Nat.le_of_not_lt hj), undefI, IV.under, underL]

/-- What a body must achieve. -/
def BodyQ (T : Tr Ty) (rs : List ResultVar) (Q : IV → H → Prop) (o : Out) (fr : Fr) (h' : H) : Prop :=
  (o = .normal ∨ o = .ret) ∧ ∃ h'' vs, takeMarks fr.marks h' = some h'' ∧ resI T h'' fr.tm rs = some vs ∧ Q (resV vs) h''

theorem takeMarks_next : ∀ {ms : List Mk} {h h' : H}, takeMarks ms h = some h' → h'.next = h.next
  | [], h, h', hh => by cases hh; rfl
  | .call .. :: _, _, _, hh => by cases hh
  | .col r :: rs, h, h', hh => by
    simp only [takeMarks] at hh
    split at hh
    · rw [takeMarks_next hh]; rfl
    · cases hh

include hT in
theorem leaves_marks {fn : Func} {ntmps : Nat} {tm : Tm} {a : Act} {Q : IV → H → Prop} {h0 : H} {E0 : Env} : ∀ (ms : List Mk) (h h'' : H) (w : World), Rel P w0 E h w → Step E0 h0 E h → FRel E h.next ntmps tm a → (∀ m ∈ ms, m.blk < h.next) →
    takeMarks ms h = some h'' → ∀ vs, resI T h'' tm fn.results.toList = some vs → Q (resV vs) h'' →
    LeavesInM Fence.wide 0 P fn a.tmps (fun e w' => ∃ v h' E', e = .returned (v.den E') ∧ Rel P w0 E' h' w' ∧ Step E0 h0 E' h' ∧ v.under h'.next ∧ Q v h') (ms.map (Mk.den E)) .returning w := by
  intro ms
  induction ms with
  | nil =>
    intro h h'' w hr hs f _ ht vs hv hq
    cases ht
    have := results_run hT hr f hv
    exact ⟨_, this.1, _, _, _, rfl, hr, hs, this.2, hq⟩
  | cons m ms ih =>
    intro h h'' w hr hs f hm ht vs hv hq
    cases m with
    | call _ _ => cases ht
    | col r =>
    simp only [takeMarks] at ht
    split at ht
    · next hg =>
      obtain ⟨w', h1, h2⟩ := takeMark_run hr hg
      exact ⟨by simp, .inl ⟨_, w', rfl, h1, ih (h.kill r) h'' w' h2 ⟨hs.ext, hs.le⟩ f (fun r' hr' => hm r' (by simp [hr'])) ht vs hv hq⟩⟩
    · cases ht

include hT in
theorem Sp.of_ev {f : FuncId} {fn : Func} {c : Code} {args : List IV} {Q : IV → H → Prop} (hf : P.funcs[f]? = some fn) (hb : fn.body = some c) (hn : args.length ≤ fn.ntmps)
    (he : Ev P none fn.ntmps c (BodyQ T fn.results.toList Q) ⟨mkTm args 0 .leaf, []⟩ h) : Sp P f args h Q := by
  intro w0 E w hr hu
  refine callsIn_of_wp_marks hf hb trivial ?_ rfl
  have := he w0 E w _ hr (fun l hl => by cases hl) (frame_mk hu hn)
  refine wpIn_mono this ?_
  rintro e a' w' ⟨o, fr', h', E', rfl, hr', hs, ha', ho, h'', vs, ht, hv, hq⟩
  have := leaves_marks hT (E0 := E) (h0 := h) (Q := Q) (fn := fn) fr'.marks h' h'' w' hr' hs ha'.f ha'.u ht vs hv hq
  rw [← ha'.d] at this
  rcases ho with rfl | rfl <;> exact this

/-! ### A range over a function -/
theorem getLoop_run (hr : Rel P w0 E h w) {l : Nat} {st : LoopState} {pd : Option Code} {ntmps : Nat} {tm : Tm} {params : List Nat} {assign body : Code} {d : Nat} {wr : Bool}
    (hg : h.get l = some (.loop st pd ntmps tm params assign body d, wr)) : ∃ (tmps : Array Value) (fn : FuncId),
      (Instr.getLoop (E.ρ l)).run P w = .ok { state := st, pending := pd, fn, tmps, params := params.toArray, assign, body, defers := E.ρ d } w ∧
      w.heap[E.ρ l]? = some (.loop { state := st, pending := pd, fn, tmps, params := params.toArray, assign, body, defers := E.ρ d }) ∧
      tmps.size = ntmps ∧ (∀ j, tmps.getD j undef = (tm.tmp j).den E) ∧ (∀ j, (tm.tmp j).under h.next) ∧ d < h.next := by
  obtain ⟨tmps, fn, h1, h2, h3, h4, h5⟩ := (hr.obj _ _ _ hg).1
  have hlt := hr.dom _ _ hg
  refine ⟨tmps, fn, ?_, h1, h2, h3, fun j => IV.under_mono (Nat.le_of_lt hlt) _ (h4 j), Nat.lt_trans h5 hlt⟩
  simp only [Instr.getLoop, Sem.run_bind, getObj_run P w _ _ h1 (by simp), Result.andThen_ok, Sem.run_pure]

theorem Rel.setLoop (hr : Rel P w0 E h w) {l : Nat} {st st' : LoopState} {pd pd' : Option Code} {ntmps : Nat} {tm : Tm} {params : List Nat} {assign body : Code} {d : Nat}
    (hg : h.get l = some (.loop st pd ntmps tm params assign body d, true)) {tmps : Array Value} {fn : FuncId}
    (ho : w.heap[E.ρ l]? = some (.loop { state := st, pending := pd, fn, tmps, params := params.toArray, assign, body, defers := E.ρ d })) :
    (setObj (E.ρ l) (.loop { state := st', pending := pd', fn, tmps, params := params.toArray, assign, body, defers := E.ρ d })).run P w = .ok () (World.putObj w (E.ρ l) (.loop { state := st', pending := pd', fn, tmps, params := params.toArray, assign, body, defers := E.ρ d })) ∧
      Rel P w0 E (h.put l (.loop st' pd' ntmps tm params assign body d)) (World.putObj w (E.ρ l) (.loop { state := st', pending := pd', fn, tmps, params := params.toArray, assign, body, defers := E.ρ d })) := by
  obtain ⟨tmps', fn', h1, h2, h3, h4, h5⟩ := (hr.obj _ _ _ hg).1
  rw [ho] at h1
  cases h1
  exact ⟨setObj_run P w _ _ _ ho (by simp), hr.put hg ⟨tmps, fn, rfl, h2, h3, h4, h5⟩⟩

def setParams : Tm → List Nat → List IV → Tm
  | t, p :: ps, v :: vs => setParams (t.set p (some v)) ps vs
  | t, _, _ => t

theorem setParams_rel {E : Env} {n ntmps : Nat} : ∀ (ps : List Nat) (vs : List IV) (tm : Tm) (tmps : Array Value), ps.length = vs.length → (∀ p ∈ ps, p < ntmps) → underL n vs → FRel E n ntmps tm { tmps, defers := [] } →
    FRel E n ntmps (setParams tm ps vs) { tmps := (ps.zip (denL E vs)).foldl (fun tmps (x : Nat × Value) => tmps.setIfInBounds x.1 x.2) tmps, defers := [] }
  | [], [], tm, tmps, _, _, _, f => f
  | p :: ps, v :: vs, tm, tmps, hl, hp, hu, f => by
    simp only [underL] at hu
    have := f.put (d := p) (v := v) (hp p (by simp)) hu.1
    exact setParams_rel ps vs (tm.set p (some v)) (tmps.setIfInBounds p (v.den E)) (by simpa using hl) (fun q hq => hp q (by simp [hq])) hu.2 this
  | [], _ :: _, _, _, hl, _, _, _ => by simp at hl
  | _ :: _, [], _, _, hl, _, _, _ => by simp at hl

/-- What is asked behind a round's body: how yield answers, and what the record holds. -/
def RoundQ (l : Nat) (Q : IV → H → Prop) (o : Out) (h' : H) : Prop :=
  ∃ st pd ntmps tm params assign body d, h'.get l = some (.loop st pd ntmps tm params assign body d, true) ∧
    match o with
    | .normal => Q (.bool true) (h'.put l (.loop .ready none ntmps tm params assign body d))
    | .ret => Q (.bool false) (h'.put l (.loop .done (some .ret) ntmps tm params assign body d))
    | .exit id => Q (.bool false) (h'.put l (.loop .done (some (.exit id)) ntmps tm params assign body d))
    | .goto k => Q (.bool false) (h'.put l (.loop .done (some (.goto k)) ntmps tm params assign body d))
    | .panic _ => False

theorem Cl.yield {l : Nat} {pd : Option Code} {ntmps : Nat} {tm : Tm} {params : List Nat} {assign body : Code} {d : Nat} {st : LoopState} {vs : List IV} {Q : IV → H → Prop}
    (hg : h.get l = some (.loop st pd ntmps tm params assign body d, true)) (hl : vs.length = params.length) (hp : ∀ p ∈ params, p < ntmps)
    (he : Ev P (some l) ntmps assign (fun o fr1 h1 => o = .normal ∧ ∃ pd1 ntmps1 tm1 params1 assign1 body1 d1, h1.get l = some (.loop .ready pd1 ntmps1 tm1 params1 assign1 body1 d1, true) ∧
      Ev P (some l) ntmps body (fun o _ h2 => RoundQ l Q o h2) fr1 (h1.put l (.loop .busy pd1 ntmps1 tm1 params1 assign1 body1 d1))) ⟨setParams tm params vs, []⟩ h) :
    Cl P (.func (.yield l) [] []) vs h Q := by
  intro w0 E w hr hfu hu
  obtain ⟨tmps, fn, h1, h2, h3, h4, h5, h6⟩ := getLoop_run hr hg
  have hlt := hr.dom _ _ hg
  have hrun : ((do let d ← Deferred.ofValue (IV.den E (.func (.yield l) [] [])) (denL E vs).toArray; invoke d.target d.args : Sem Next).run P w) =
      .ok (.round (E.ρ l) fn ((params.zip (denL E vs)).foldl (fun tmps (x : Nat × Value) => tmps.setIfInBounds x.1 x.2) tmps) assign body) w := by
    simp only [IV.den, IFn.den, denL, Deferred.ofValue, Sem.run_bind, Sem.run_pure, Result.andThen_ok, invoke, Instr.yield, h1]
    have hsz : ¬ ((#[] ++ (denL E vs).toArray).size ≠ params.toArray.size) := by simp [length_denL, hl]
    simp only [hsz, if_false]
    congr 2
    rw [← Array.foldl_toList]
    simp
  rw [hrun]
  refine roundIn_of_wpIn trivial ?_
  have hfr : ARel E h.next ntmps ⟨setParams tm params vs, []⟩ { tmps := (params.zip (denL E vs)).foldl (fun tmps (x : Nat × Value) => tmps.setIfInBounds x.1 x.2) tmps, defers := [] } :=
    ⟨setParams_rel params vs tm tmps hl.symm hp hu ⟨h3, h4, h5⟩, rfl, by simp⟩
  have hev := he w0 E w _ hr (fun l' hl' => by cases hl'; exact hlt) hfr
  have hF : Fence.wide.inRound (E.ρ l) = Wd ((some l).map E.ρ) := rfl
  rw [hF]
  refine wpIn_mono hev ?_
  rintro e a1 w1 ⟨o, fr1, h1', E1, rfl, hr1, hs1, ha1, rfl, pd1, ntmps1, tm1, params1, assign1, body1, d1, hg1, hbody⟩
  obtain ⟨tmps1, fn1, b1, b2, b3, b4, b5, b6⟩ := getLoop_run hr1 hg1
  have hρ : E1.ρ l = E.ρ l := (hs1.ext l hlt).1
  obtain ⟨s1, s2⟩ := hr1.setLoop (st' := .busy) (pd' := pd1) hg1 b2
  refine ⟨World.putObj w1 (E1.ρ l) (.loop { state := .busy, pending := pd1, fn := fn1, tmps := tmps1, params := params1.toArray, assign := assign1, body := body1, defers := E1.ρ d1 }), ?_, ?_⟩
  · rw [← hρ]
    simp only [Instr.beginRound, Sem.run_bind, b1, Result.andThen_ok, s1, Sem.run_pure]
  · have hev2 := hbody w0 E1 _ a1 s2 (fun l' hl' => by cases hl'; exact hr1.dom _ _ hg1) ha1
    have : (some l).map E1.ρ = (some l).map E.ρ := by simp [hρ]
    rw [this] at hev2
    refine wpIn_mono hev2 ?_
    rintro e2 a2 w2 ⟨o2, fr2, h2', E2, rfl, hr2, hs2, ha2, st2, pd2, ntmps2, tm2, params2, assign2, body2, d2, hg2, hq⟩
    obtain ⟨tmps2, fn2, c1, c2, c3, c4, c5, c6⟩ := getLoop_run hr2 hg2
    have hρ2 : E2.ρ l = E.ρ l := ((hs2.ext l (by exact hr1.dom _ _ hg1)).1).trans hρ
    have fin : ∀ (j : Option Code) (b : Bool), b = j.isNone → Q (.bool b) (h2'.put l (.loop (if j.isNone then .ready else .done) j ntmps2 tm2 params2 assign2 body2 d2)) →
        ∃ v w', (Instr.endRound (E.ρ l) j).run P w2 = .ok v w' ∧ ∃ v1 h' E', v = IV.den E' v1 ∧ Rel P w0 E' h' w' ∧ Step E h E' h' ∧ v1.under h'.next ∧ Q v1 h' := by
      intro j b hb hQ
      obtain ⟨t1, t2⟩ := hr2.setLoop (st' := if j.isNone then .ready else .done) (pd' := j) hg2 c2
      refine ⟨.bool j.isNone, _, ?_, .bool b, _, E2, by rw [hb]; rfl, t2, ?_, by simp [IV.under], hQ⟩
      · rw [← hρ2]
        simp only [Instr.endRound, Sem.run_bind, c1, Result.andThen_ok, t1, Sem.run_pure]
      · exact hs1.trans ⟨hs2.ext, hs2.le⟩
    cases o2 with
    | normal => exact fin none true rfl hq
    | ret => exact fin (some .ret) false rfl hq
    | exit id => exact fin (some (.exit id)) false rfl hq
    | goto k => exact fin (some (.goto k)) false rfl hq
    | panic v => exact hq.elim

/-- Behind the function that was ranged over. -/
def RangeQ (P : Program) (rd : Option Nat) (ntmps : Nat) (Q : Out → Fr → H → Prop) (l : Nat) (fr : Fr) (h3 : H) : Prop :=
  ∃ st pd ntmps' tm params assign body d, h3.get l = some (.loop st pd ntmps' tm params assign body d, true) ∧ st ≠ .busy ∧
    match pd with
    | none => Q .normal fr (h3.kill l)
    | some c => Ev P rd ntmps c Q fr (h3.kill l)

theorem Ev.rangeFunc_none {ntmps : Nat} {fo : Operand} {params : Array Tmp} {assign body : Code} {Q : Out → Fr → H → Prop} {fr : Fr} {fv : IV} {f : FuncId} {first cap : List IV}
    (hfv : evo fr.tm fo = some fv) (hfun : fv = .func (.func f) first cap) (hen : Go.Proofs.Enters P f)
    (hc : Cl P fv [.func (.yield (h.next + 1)) [] []] ((h.new (.defs false)).new (.loop .ready none ntmps fr.tm params.toList assign body h.next)) fun _ h3 =>
      RangeQ P none ntmps Q (h.next + 1) ⟨fr.tm, .col h.next :: fr.marks⟩ h3) :
    Ev P none ntmps (.rangeFunc fo params assign body) Q fr h := by
  intro w0 E w a hr hrd ha
  refine wpIn_rangeFunc fun fn _ => ?_
  -- the block for the rounds' deferred calls, and the record
  obtain ⟨r1, s1⟩ := hr.new (o := .defs false) (ob := .deferred (some [])) 0 (w' := w.alloc (.deferred (some []))) rfl rfl
  have e1 := ha.ext s1
  have hd : (E.bind h.next w.heap.size 0).ρ h.next = w.heap.size := bind_at _ _ _ _
  obtain ⟨r2, s2⟩ := r1.new (o := .loop .ready none ntmps fr.tm params.toList assign body h.next)
    (ob := .loop { state := .ready, pending := none, fn, tmps := a.tmps, params := params, assign, body, defers := w.heap.size }) 0
    (w' := (w.alloc (.deferred (some []))).alloc (.loop { state := .ready, pending := none, fn, tmps := a.tmps, params := params, assign, body, defers := w.heap.size })) rfl
    ⟨a.tmps, fn, by
      have : ((E.bind h.next w.heap.size 0).bind (h.new (.defs false)).next (w.alloc (.deferred (some []))).heap.size 0).ρ h.next = w.heap.size := by
        rw [(Env.bind_ext _ _ _ _ h.next (by simp)).1, hd]
      rw [this], e1.f.size, fun j => by rw [e1.f.val j, IV.den_ext (Env.bind_ext _ _ _ _) _ (e1.f.under j)], fun j => e1.f.under j, by simp⟩
  have e2 := e1.ext s2
  generalize hE2 : (E.bind h.next w.heap.size 0).bind (h.new (.defs false)).next (w.alloc (.deferred (some []))).heap.size 0 = E2 at r2 s2 e2
  have hl : E2.ρ (h.next + 1) = w.heap.size + 1 := by rw [← hE2]; simp [Env.bind]
  have hdm : E2.ρ h.next = w.heap.size := by
    rw [← hE2, (Env.bind_ext _ _ _ _ h.next (by simp)).1, hd]
  have s12 := s1.trans s2
  have hfu := evo_den e2.f hfv
  have hcl := hc w0 E2 _ r2 hfu.2 (by simp [underL, IV.under, IFn.under])
  have hop : a.eval fo = fv.den E2 := hfu.1
  subst hfun
  refine ⟨w.heap.size + 1, [{ target := .collected w.heap.size, args := #[] }], ((w.alloc (.deferred (some []))).alloc (.loop { state := .ready, pending := none, fn, tmps := a.tmps, params := params, assign, body, defers := w.heap.size })), { target := .fn (.func f) (denL E2 cap).toArray, args := (denL E2 first).toArray ++ #[.func (.yield (w.heap.size + 1)) #[] #[]] }, ((w.alloc (.deferred (some []))).alloc (.loop { state := .ready, pending := none, fn, tmps := a.tmps, params := params, assign, body, defers := w.heap.size })), ?_⟩
  unfold UponV at hcl
  have hres : ((do let d ← Deferred.ofValue (IV.den E2 (.func (.func f) first cap)) (denL E2 [.func (.yield (h.next + 1)) [] []]).toArray; invoke d.target d.args : Sem Next)) =
      invoke (.fn (.func f) (denL E2 cap).toArray) ((denL E2 first).toArray ++ #[.func (.yield (w.heap.size + 1)) #[] #[]]) := by
    simp only [IV.den, IFn.den, denL, hl]
    rfl
  rw [hres] at hcl
  split at hcl
  · next f' args' w' hinv =>
    refine ⟨f', args', w', ?_, ?_, fun _ _ => trivial, hinv, fun hh => by simp [Wd, Fence.wide] at hh, ?_⟩
    · simp [Instr.enterLoop]
    · have ha0 : (rangeCall fo (w.heap.size + 1)).args.map a.eval = #[.func (.yield (w.heap.size + 1)) #[] #[]] := by simp [rangeCall, Act.eval]
      simp only [resolve, ha0]
      simp only [rangeCall, hop, IV.den, IFn.den, Deferred.ofValue, Sem.run_pure]
    · refine CallsIn.mono hcl ?_
      intro e w3 he
      cases e with
      | panicked _ => exact he.elim
      | outgrown => exact he.elim
      | returned v' =>
        obtain ⟨v, h3, E3, rfl, r3, s3, _, st, pd, nt, tm, ps, as', bd, d, hg, hst, hq⟩ := he
        obtain ⟨tmps, fn3, c1, c2, c3, c4, c5, c6⟩ := getLoop_run r3 hg
        have hρ : E3.ρ (h.next + 1) = w.heap.size + 1 := by rw [(s3.ext _ (by simp)).1, hl]
        obtain ⟨t1, t2⟩ := r3.setLoop (st' := .exhausted) (pd' := pd) hg c2
        have hend : (Instr.endLoop (w.heap.size + 1)).run P w3 = .ok pd (World.putObj w3 (E3.ρ (h.next + 1)) (.loop { state := .exhausted, pending := pd, fn := fn3, tmps, params := ps.toArray, assign := as', body := bd, defers := E3.ρ d })) := by
          rw [← hρ]
          have hb : (st == LoopState.busy) = false := by simpa using hst
          simp only [Instr.endLoop, Sem.run_bind, c1, Result.andThen_ok, hb, Bool.false_eq_true, if_false, t1, Sem.run_pure]
        have r4 : Rel P w0 E3 (h3.kill (h.next + 1)) (World.putObj w3 (E3.ρ (h.next + 1)) (.loop { state := .exhausted, pending := pd, fn := fn3, tmps, params := ps.toArray, assign := as', body := bd, defers := E3.ρ d })) := by
          refine (t2.kill (h.next + 1)).congr (fun i x hi => ?_) rfl
          rw [H.get_kill] at hi ⊢
          by_cases e : h.next + 1 = i
          · rw [if_pos e] at hi; cases hi
          · rw [if_neg e] at hi ⊢; rw [H.get_put, if_neg e]; exact hi
        have s13 : Step E h E3 (h3.kill (h.next + 1)) := (s12.trans s3).trans ⟨Ext.refl _ _, Nat.le_refl _⟩
        have ha3 := ha.ext s13
        have hmark : ARel E3 (h3.kill (h.next + 1)).next ntmps ⟨fr.tm, .col h.next :: fr.marks⟩ { a with defers := [{ target := .collected w.heap.size, args := #[] }] ++ a.defers } := by
          refine ⟨⟨ha3.f.size, ha3.f.val, ha3.f.under⟩, ?_, fun r hr' => ?_⟩
          · rw [ha3.d]
            simp only [List.map_cons, List.singleton_append, Mk.den]
            rw [(s3.ext h.next (by simp; omega)).1, hdm]
          · rcases List.mem_cons.1 hr' with rfl | hr'
            · have := s13.le; have := s3.le; simp [Mk.blk] at this ⊢; omega
            · exact ha3.u r hr'
        refine ⟨pd, _, hend, ?_⟩
        cases pd with
        | none => exact ⟨.normal, _, _, E3, rfl, r4, s13, hmark, hq⟩
        | some c =>
          have := hq w0 E3 _ _ r4 (fun l hl => by cases hl) hmark
          exact wpIn_mono this fun e a w hp => hp.step s13
  · next v' w' hinv =>
    exfalso
    simp only [invoke, hen _ _] at hinv
    cases hinv
  · next l' f' tmps' as' bd' w' hinv =>
    exfalso
    simp only [invoke, hen _ _] at hinv
    cases hinv
  · exact hcl.elim

end
end Sx
