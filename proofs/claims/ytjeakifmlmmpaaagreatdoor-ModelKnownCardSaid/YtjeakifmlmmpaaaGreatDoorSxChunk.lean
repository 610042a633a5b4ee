/- A run in pieces: the states between them are written out. -/
import Derived.Test.YtjeakifmlmmpaaaGreatDoorSxOnce
import Derived.Test.YtjeakifmlmmpaaaGreatDoorSxSymb
namespace Sx
open Go Go.RowKit
set_option linter.unusedSimpArgs false

abbrev BL := List (Nat × Bx × Bool)
/-- A state: the values of the temporaries, the blocks that are needed, the next block. -/
structure St where
  vs : List IV
  hp : BL
  nx : Nat
def hpT (l : BL) (t : Tr (Bx × Bool)) : Tr (Bx × Bool) := l.foldl (fun t x => t.set x.1 (some x.2)) t
theorem hpT_get : ∀ {l : BL} {t : Tr (Bx × Bool)} {i : Nat} {x : Bx × Bool}, (hpT l t).get i = some x → (i, x) ∈ l ∨ t.get i = some x := by
  intro l
  induction l with
  | nil => intro t i x h; exact .inr h
  | cons a l ih =>
    intro t i x h
    rcases ih (t := t.set a.1 (some a.2)) h with h1 | h1
    · exact .inl (List.mem_cons_of_mem _ h1)
    · rw [Tr.get_set] at h1
      split at h1
      · next e => cases h1; subst e; exact .inl (by simp)
      · exact .inr h1
def St.H (s : St) : H := ⟨hpT s.hp .leaf, s.nx⟩
def St.F (s : St) : Fr := ⟨mkTm s.vs 0 .leaf, []⟩

/-- The run is here. -/
def At (n : Nat) (s : St) (fr : Fr) (h : H) : Prop := s.vs.length = n ∧ FrIs n fr (fun j => s.vs.getD j undefI) [] ∧ h.next = s.nx ∧ ∀ i x, (i, x) ∈ s.hp → h.get i = some x

theorem At.canon {n : Nat} {s : St} {fr : Fr} {h : H} (ha : At n s fr h) : canon n (fun j => s.vs.getD j undefI) [] = s.F := by
  have : (List.range n).map (fun j => s.vs.getD j undefI) = s.vs := by
    refine List.ext_getElem (by simp [ha.1]) fun i h1 h2 => ?_
    simp [List.getD, h2]
  simp only [Sx.canon, this, St.F]

theorem Ev.less {P : Program} {rd : Option Nat} {n : Nat} {c : Code} {Q : Out → Fr → H → Prop} {fr : Fr} {h h1 : H} (hg : ∀ i x, h1.get i = some x → h.get i = some x) (hn : h1.next = h.next) (he : Ev P rd n c Q fr h1) : Ev P rd n c Q fr h :=
  fun w0 E w a hr hrd ha => wpIn_mono (he w0 E w a (hr.congr hg hn) (by rw [hn]; exact hrd) (by rw [hn]; exact ha)) fun _ _ _ ⟨o, fr', h', E', r1, r2, r3, r4, r5⟩ => ⟨o, fr', h', E', r1, r2, ⟨by rw [← hn]; exact r3.ext, by rw [← hn]; exact r3.le⟩, r4, r5⟩

theorem Ev.at {P : Program} {rd : Option Nat} {n : Nat} {c : Code} {Q : Out → Fr → H → Prop} {s : St} {fr : Fr} {h : H} (ha : At n s fr h) (he : Ev P rd n c Q s.F s.H) : Ev P rd n c Q fr h := by
  refine Ev.canon ha.2.1 ?_
  rw [ha.canon]
  refine Ev.less (h1 := s.H) (fun i x hi => ?_) ha.2.2.1.symm he
  rcases hpT_get hi with h1 | h1
  · exact ha.2.2.2 _ _ h1
  · cases h1

theorem EvS.at {P : Program} {rd : Option Nat} {n : Nat} {l : List Code} (hl : l ≠ []) {Q : Out → Fr → H → Prop} {s : St} {fr : Fr} {h : H} (ha : At n s fr h) (he : EvS P rd n l Q s.F s.H) : EvS P rd n l Q fr h := by
  cases l with
  | nil => exact absurd rfl hl
  | cons c cs => exact Ev.at (c := c) ha he

/-! ### The run of some parts -/
noncomputable def runS (r : Rn) (rd : Option Nat) (n : Nat) (l : List Code) : Fr → H → KR :=
  List.rec (motive := fun _ => Fr → H → KR) (fun fr h => some (.normal, fr, h)) (fun c _ ih fr h => match r.code rd n c fr h with
    | none => none
    | some (o, fr1, h1) => match o with
      | .normal => ih fr1 h1
      | o => some (o, fr1, h1)) l
theorem runS_sound {P : Program} {r : Rn} (hr : SoundR P r) {rd : Option Nat} {n : Nat} {post : List Code} {Q : Out → Fr → H → Prop} {o : Out} {fr' : Fr} {h' : H} : ∀ {pre : List Code} {fr : Fr} {h : H},
    runS r rd n pre fr h = some (o, fr', h') → Out.next (EvS P rd n post Q) Q o fr' h' → EvS P rd n (pre ++ post) Q fr h := by
  intro pre
  induction pre with
  | nil => intro fr h e hq; cases e; exact hq
  | cons c cs ih =>
    intro fr h e hq
    have e1 : (match r.code rd n c fr h with
      | none => none
      | some (o, fr1, h1) => match o with
        | .normal => runS r rd n cs fr1 h1
        | o => some (o, fr1, h1)) = some (o, fr', h') := e
    split at e1
    · cases e1
    · rename_i o1 fr1 h1 hx
      have hx' := hr.code _ _ _ _ _ _ _ _ hx
      split at e1
      · refine Ev.mono (c := c) hx' ?_
        rintro o2 f2 h2 ⟨rfl, rfl, rfl⟩
        exact ih e1 hq
      · rename_i o3 hno
        cases e1
        refine Ev.mono (c := c) hx' ?_
        rintro o2 f2 h2 ⟨rfl, rfl, rfl⟩
        cases o2 with
        | normal => exact absurd rfl hno
        | _ => exact hq

/-! ### Starting at a state -/
section
variable {β : Type}
noncomputable def kmkG (vs : List IV) : Nat → Tm → (Tm → β) → β :=
  List.rec (motive := fun _ => Nat → Tm → (Tm → β) → β) (fun _ tm k => k tm)
    (fun v _ ih i tm k => ksetT tm i (some v) fun tm => ih (Nat.succ i) tm k) vs
theorem kmkG_eq (vs : List IV) : ∀ (i : Nat) (tm : Tm) (k : Tm → β), kmkG vs i tm k = k (mkTm vs i tm) := by
  induction vs with
  | nil => intro i tm k; rfl
  | cons v vs ih =>
    intro i tm k
    show ksetT tm i (some v) (fun tm => kmkG vs (Nat.succ i) tm k) = _
    rw [ksetT_eq, ih]
    rfl
noncomputable def khpG (l : BL) : Tr (Bx × Bool) → (Tr (Bx × Bool) → β) → β :=
  List.rec (motive := fun _ => Tr (Bx × Bool) → (Tr (Bx × Bool) → β) → β) (fun t k => k t)
    (fun x _ ih t k => match x with
      | (i, y) => ksetT t i (some y) fun t => ih t k) l
theorem khpG_eq (l : BL) : ∀ (t : Tr (Bx × Bool)) (k : Tr (Bx × Bool) → β), khpG l t k = k (hpT l t) := by
  induction l with
  | nil => intro t k; rfl
  | cons x l ih =>
    intro t k
    obtain ⟨i, y⟩ := x
    show ksetT t i (some y) (fun t => khpG l t k) = _
    rw [ksetT_eq, ih]
    rfl
noncomputable def atS (s : St) (k : Fr → H → β) : β := kmkG s.vs 0 .leaf fun tm => khpG s.hp .leaf fun t => k ⟨tm, []⟩ ⟨t, s.nx⟩
theorem atS_eq (s : St) (k : Fr → H → β) : atS s k = k s.F s.H := by
  simp only [atS, kmkG_eq, khpG_eq]
  rfl
end

/-! ### What a run comes to -/
def outB : Out → Out → Bool
  | .normal, .normal => true
  | .ret, .ret => true
  | .exit a, .exit b => Nat.beq a b
  | _, _ => false
theorem outB_eq : ∀ {a b : Out}, outB a b = true → a = b
  | .normal, .normal, _ => rfl
  | .ret, .ret, _ => rfl
  | .exit a, .exit b, h => by rw [Nat.eq_of_beq_eq_true (show Nat.beq a b = true from h)]
  | .normal, .ret, h => by cases h
  | .normal, .exit _, h => by cases h
  | .normal, .goto _, h => by cases h
  | .normal, .panic _, h => by cases h
  | .ret, .normal, h => by cases h
  | .ret, .exit _, h => by cases h
  | .ret, .goto _, h => by cases h
  | .ret, .panic _, h => by cases h
  | .exit _, .normal, h => by cases h
  | .exit _, .ret, h => by cases h
  | .exit _, .goto _, h => by cases h
  | .exit _, .panic _, h => by cases h
  | .goto _, b, h => by cases b <;> cases h
  | .panic _, b, h => by cases b <;> cases h

noncomputable def tmsB (tm : Tm) (vs : List IV) : Nat → Bool :=
  List.rec (motive := fun _ => Nat → Bool) (fun _ => true) (fun v _ ih i => match kget tm i with
    | some u => match u.same v with
      | true => ih (Nat.succ i)
      | false => false
    | none => match undefI.same v with
      | true => ih (Nat.succ i)
      | false => false) vs
theorem tmsB_ok {tm : Tm} : ∀ {vs : List IV} {i : Nat}, tmsB tm vs i = true → ∀ j v, vs[j]? = some v → tm.tmp (i + j) = v := by
  intro vs
  induction vs with
  | nil => intro i _ j v hj; cases hj
  | cons u vs ih =>
    intro i e j v hj
    have e1 : (match kget tm i with
      | some u' => match u'.same u with
        | true => tmsB tm vs (Nat.succ i)
        | false => false
      | none => match undefI.same u with
        | true => tmsB tm vs (Nat.succ i)
        | false => false) = true := e
    rw [kget_eq] at e1
    have key : tm.tmp i = u ∧ tmsB tm vs (Nat.succ i) = true := by
      unfold Tr.tmp
      split at e1
      · rename_i u' hu
        split at e1
        · rename_i hs; rw [hu]; exact ⟨IV.same_eq _ _ hs, e1⟩
        · cases e1
      · rename_i hu
        split at e1
        · rename_i hs; rw [hu]; exact ⟨IV.same_eq _ _ hs, e1⟩
        · cases e1
    cases j with
    | zero => cases hj; exact key.1
    | succ j => rw [show i + (j + 1) = Nat.succ i + j by simp only [Nat.succ_eq_add_one]; omega]; exact ih key.2 j v (by simpa using hj)

def noMarks : List Mk → Bool
  | [] => true
  | _ => false
noncomputable def endB (n : Nat) (s : St) (fr : Fr) (h : H) : Bool := match fr with
  | ⟨tm, ms⟩ => Nat.beq s.vs.length n && noMarks ms && Nat.beq h.next s.nx && s.hp.all (fun x => sameAt x.2 h x.1) && tmsB tm s.vs 0
theorem endB_ok {n : Nat} {s : St} {fr : Fr} {h : H} (e : endB n s fr h = true) : At n s fr h := by
  obtain ⟨tm, ms⟩ := fr
  simp only [endB, Bool.and_eq_true] at e
  obtain ⟨⟨⟨⟨e1, e2⟩, e3⟩, e4⟩, e5⟩ := e
  have hms : ms = [] := by cases ms with
    | nil => rfl
    | cons a b => cases e2
  refine ⟨Nat.eq_of_beq_eq_true e1, ⟨hms, fun j hj => ?_⟩, Nat.eq_of_beq_eq_true e3, fun i x hx => sameAt_ok (List.all_eq_true.1 e4 _ hx)⟩
  have hl : j < s.vs.length := by rw [Nat.eq_of_beq_eq_true e1]; exact hj
  have := tmsB_ok e5 j (s.vs[j]) (by simp [hl])
  rw [Nat.zero_add] at this
  simpa [List.getD, hl] using this

def someC : List Code → Bool
  | [] => false
  | _ => true
/-- From one state to the next one. -/
noncomputable def chunkB (r : Rn) (n : Nat) (pre : List Code) (s : St) (o : Out) (s' : St) : Bool := match someC pre with
  | true => atS s fun fr h => match runS r none n pre fr h with
    | some (o', fr', h') => match outB o' o with
      | true => endB n s' fr' h'
      | false => false
    | none => false
  | false => false

theorem EvS.chunk {P : Program} {r : Rn} (hr : SoundR P r) {n : Nat} {pre post : List Code} {Q : Out → Fr → H → Prop} {s s' : St} {o : Out} (hc : chunkB r n pre s o s' = true) (hk : ∀ fr' h', At n s' fr' h' → Out.next (EvS P none n post Q) Q o fr' h') {fr : Fr} {h : H} (ha : At n s fr h) :
    EvS P none n (pre ++ post) Q fr h := by
  unfold chunkB at hc
  split at hc
  case h_2 => cases hc
  rename_i hp
  have hp' : pre ++ post ≠ [] := by cases pre with
    | nil => cases hp
    | cons a b => simp
  refine EvS.at hp' ha ?_
  rw [atS_eq] at hc
  split at hc
  case h_2 => cases hc
  rename_i o' fr' h' hx
  split at hc
  case h_2 => cases hc
  rename_i ho
  have := outB_eq ho
  subst this
  exact runS_sound hr hx (hk _ _ (endB_ok hc))

def seg (l : List Code) (i k : Nat) : List Code := (l.drop i).take k
/-- Some parts of a list, and on. -/
theorem EvS.go {P : Program} {r : Rn} (hr : SoundR P r) {n : Nat} {l : List Code} {i k : Nat} {Q : Out → Fr → H → Prop} {s s' : St} (hc : chunkB r n (seg l i k) s .normal s' = true) (hk : ∀ fr' h', At n s' fr' h' → EvS P none n (l.drop (i + k)) Q fr' h') :
    ∀ fr h, At n s fr h → EvS P none n (l.drop i) Q fr h := by
  intro fr h ha
  have hl : l.drop i = seg l i k ++ l.drop (i + k) := by
    rw [seg, ← List.drop_drop, List.take_append_drop]
  rw [hl]
  exact EvS.chunk hr hc hk ha

/-! ### Loops, round by round -/
/-- The rest of a loop that is the i-th part. -/
def LoopAt (P : Program) (n id : Nat) (body : Code) (post : List Code) (Q : Out → Fr → H → Prop) (fr : Fr) (h : H) : Prop := EvLoop P none n body (Out.block id (Out.next (EvS P none n post Q) Q)) fr h
theorem EvS.loopIn {P : Program} {n id : Nat} {body : Code} {post : List Code} {Q : Out → Fr → H → Prop} {fr : Fr} {h : H} (hl : LoopAt P n id body post Q fr h) : EvS P none n (.block id (.loop body) :: post) Q fr h := Ev.block (Ev.loop hl)
/-- A round. -/
theorem LoopAt.go {P : Program} {r : Rn} (hr : SoundR P r) {n id : Nat} {body : Code} {post : List Code} {Q : Out → Fr → H → Prop} {s s' : St} (hc : chunkB r n [body] s .normal s' = true) (hk : ∀ fr' h', At n s' fr' h' → LoopAt P n id body post Q fr' h') :
    ∀ fr h, At n s fr h → LoopAt P n id body post Q fr h := by
  intro fr h ha
  have he : EvS P none n ([body] ++ []) (Out.next (LoopAt P n id body post Q) (Out.block id (Out.next (EvS P none n post Q) Q))) fr h := EvS.chunk (P := P) (post := []) (o := .normal) (Q := Out.next (LoopAt P n id body post Q) (Out.block id (Out.next (EvS P none n post Q) Q))) hr hc (fun fr' h' ha' => hk fr' h' ha') ha
  refine EvLoop.round (Ev.mono (c := body) he fun o fr h ho => ?_)
  cases o <;> exact ho
/-- The last one. -/
theorem LoopAt.out {P : Program} {r : Rn} (hr : SoundR P r) {n id : Nat} {body : Code} {post : List Code} {Q : Out → Fr → H → Prop} {s s' : St} (hc : chunkB r n [body] s (.exit id) s' = true) (hk : ∀ fr' h', At n s' fr' h' → EvS P none n post Q fr' h') :
    ∀ fr h, At n s fr h → LoopAt P n id body post Q fr h := by
  intro fr h ha
  have he : EvS P none n ([body] ++ []) (Out.next (LoopAt P n id body post Q) (Out.block id (Out.next (EvS P none n post Q) Q))) fr h := EvS.chunk hr hc (fun fr' h' ha' => by
    show Out.block id _ (.exit id) fr' h'
    simp only [Out.block, if_true]
    exact hk fr' h' ha') ha
  refine EvLoop.round (Ev.mono (c := body) he fun o fr h ho => ?_)
  cases o <;> exact ho

theorem EvS.loopL {P : Program} {n id i : Nat} {body : Code} {l : List Code} {Q : Out → Fr → H → Prop} {s : St} (hl : l.drop i = .block id (.loop body) :: l.drop (i + 1)) (hk : ∀ fr h, At n s fr h → LoopAt P n id body (l.drop (i + 1)) Q fr h) :
    ∀ fr h, At n s fr h → EvS P none n (l.drop i) Q fr h := fun fr h ha => by
  rw [hl]
  exact EvS.loopIn (hk fr h ha)

/-! ### The end -/
/-- The last parts: what is answered; the start's blocks are as they were. -/
noncomputable def lastB (T : Tr Ty) (r : Rn) (fn : Func) (n : Nat) (pre : List Code) (s : St) (v : IV) (keep : BL) : Bool := match someC pre with
  | true => atS s fun fr h => match runS r none n pre fr h with
    | some (o', fr', h') => match (outB o' .normal || outB o' .ret) with
      | true => match kret T fn fr' h' with
        | some (v', h1) => v'.same v && keep.all (fun x => sameAt x.2 h1 x.1)
        | none => false
      | false => false
    | none => false
  | false => false

/-- The function's end. -/
def EndQ (T : Tr Ty) (fn : Func) (v : IV) (keep : BL) : Out → Fr → H → Prop := BodyQ T fn.results.toList fun v' h' => v' = v ∧ ∀ x ∈ keep, h'.get x.1 = some x.2

theorem EvS.last {P : Program} {T : Tr Ty} {r : Rn} (hr : SoundR P r) {fn : Func} {n : Nat} {pre : List Code} {s : St} {v : IV} {keep : BL} (hc : lastB T r fn n pre s v keep = true) :
    ∀ fr h, At n s fr h → EvS P none n pre (EndQ T fn v keep) fr h := by
  intro fr h ha
  unfold lastB at hc
  split at hc
  case h_2 => cases hc
  rename_i hp
  have hp' : pre ≠ [] := by cases pre with
    | nil => cases hp
    | cons a b => simp
  refine EvS.at hp' ha ?_
  rw [atS_eq] at hc
  split at hc
  case h_2 => cases hc
  rename_i o' fr' h' hx
  split at hc
  case h_2 => cases hc
  rename_i ho
  split at hc
  case h_2 => cases hc
  rename_i v' h1 hret
  simp only [Bool.and_eq_true] at hc
  have hv := IV.same_eq _ _ hc.1
  subst hv
  have ho' : o' = .normal ∨ o' = .ret := by
    simp only [Bool.or_eq_true] at ho
    rcases ho with ho | ho
    · exact .inl (outB_eq ho)
    · exact .inr (outB_eq ho)
  have hq := kret_spec (T := T) ho' hret
  have hq' : EndQ T fn v' keep o' fr' h' := by
    obtain ⟨g1, h'', vs, g2, g3, g4, g5⟩ := hq
    refine ⟨g1, h'', vs, g2, g3, g4, fun x hx => ?_⟩
    rw [g5]
    exact sameAt_ok (List.all_eq_true.1 hc.2 x hx)
  have := runS_sound (post := []) (Q := EndQ T fn v' keep) hr hx (by cases o' <;> exact hq')
  rw [List.append_nil] at this
  exact this

/-- The start. -/
theorem At.start {n : Nat} {keep : BL} {nx : Nat} (hk : keep.all (fun x => sameAt x.2 (St.H ⟨[], keep, nx⟩) x.1) = true) : At n ⟨List.replicate n undefI, keep, nx⟩ ⟨mkTm [] 0 .leaf, []⟩ (St.H ⟨[], keep, nx⟩) := by
  refine ⟨by simp, ⟨rfl, fun j hj => ?_⟩, rfl, fun i x hx => sameAt_ok (List.all_eq_true.1 hk _ hx)⟩
  simp [List.getD, mkTm, Tr.tmp, Tr.get, hj]

/-- A function, in pieces: what it answers; all else as it was. -/
theorem Sp.pieces {P : Program} {T : Tr Ty} (hT : TabOK P T) {f : Nat} {fn : Func} {c : Code} (hf : P.funcs[f]? = some fn) (hb : fn.body = some c) {n : Nat} (hn : fn.ntmps = n) {v : IV} (hv : v.flat = true) {keep : BL} {nx : Nat}
    (hk : keep.all (fun x => sameAt x.2 (St.H ⟨[], keep, nx⟩) x.1) = true) {s : St} (hs : s = ⟨List.replicate n undefI, keep, nx⟩) {l : List Code} (hl : flat c = l) (he : ∀ fr h, At n s fr h → EvS P none n (l.drop 0) (EndQ T fn v keep) fr h) :
    SpEq P f [] (St.H ⟨[], keep, nx⟩) v (St.H ⟨[], keep, nx⟩) := by
  subst hn
  subst hs
  refine Sp.forget hv (Sp.mono (Sp.of_ev hT hf hb (Nat.zero_le _) (Ev.of_flat (l := l.drop 0) (by rw [hl]; rfl) (he _ _ (At.start hk)))) ?_)
  rintro v' h' ⟨rfl, hkk⟩
  refine ⟨rfl, fun i x hi => ?_⟩
  rcases hpT_get hi with h1 | h1
  · exact hkk _ h1
  · cases h1

/-! ### The chain -/
/-- From this state on, with the parts from i. -/
def Run (P : Program) (n : Nat) (l : List Code) (i : Nat) (Q : Out → Fr → H → Prop) (s : St) : Prop := ∀ fr h, At n s fr h → EvS P none n (l.drop i) Q fr h
/-- The same within the loop that is part i. -/
def LRun (P : Program) (n : Nat) (l : List Code) (i id : Nat) (Q : Out → Fr → H → Prop) (s : St) : Prop := ∀ fr h, At n s fr h → LoopAt P n id (loopAt l i) (l.drop (i + 1)) Q fr h
theorem Run.last {P : Program} {T : Tr Ty} {r : Rn} (hr : SoundR P r) {fn : Func} {n : Nat} {l : List Code} {i : Nat} {s : St} {v : IV} {keep : BL} (hc : lastB T r fn n (l.drop i) s v keep = true) : Run P n l i (EndQ T fn v keep) s := EvS.last hr hc
theorem Run.go {P : Program} {r : Rn} (hr : SoundR P r) {n : Nat} {l : List Code} {i k j : Nat} {Q : Out → Fr → H → Prop} {s s' : St} (hc : chunkB r n (seg l i k) s .normal s' = true) (hj : i + k = j) (hk : Run P n l j Q s') : Run P n l i Q s := by
  subst hj
  exact EvS.go hr hc hk
theorem LRun.go {P : Program} {r : Rn} (hr : SoundR P r) {n : Nat} {l : List Code} {i id : Nat} {Q : Out → Fr → H → Prop} {s s' : St} (hc : chunkB r n [loopAt l i] s .normal s' = true) (hk : LRun P n l i id Q s') : LRun P n l i id Q s := LoopAt.go hr hc hk
theorem LRun.out {P : Program} {r : Rn} (hr : SoundR P r) {n : Nat} {l : List Code} {i j id : Nat} {Q : Out → Fr → H → Prop} {s s' : St} (hc : chunkB r n [loopAt l i] s (.exit id) s' = true) (hj : i + 1 = j) (hk : Run P n l j Q s') : LRun P n l i id Q s := by
  subst hj
  exact LoopAt.out hr hc hk
/-- Part i is this loop. -/
def isLoop (id : Nat) : Option Code → Bool
  | some (.block id' (.loop _)) => Nat.beq id' id
  | _ => false
theorem Run.loop {P : Program} {n : Nat} {l : List Code} {i id : Nat} {Q : Out → Fr → H → Prop} {s : St} (hl : isLoop id l[i]? = true) (hk : LRun P n l i id Q s) : Run P n l i Q s := by
  refine EvS.loopL (id := id) (body := loopAt l i) ?_ hk
  unfold isLoop at hl
  split at hl
  · rename_i id' b hb
    have hid := Nat.eq_of_beq_eq_true hl
    subst hid
    obtain ⟨hlt, hget⟩ := List.getElem?_eq_some_iff.1 hb
    rw [List.drop_eq_getElem_cons hlt, hget]
    simp only [loopAt, hb]
  · cases hl
theorem Sp.run {P : Program} {T : Tr Ty} (hT : TabOK P T) {f : Nat} {fn : Func} {c : Code} (hf : P.funcs[f]? = some fn) (hb : fn.body = some c) {n : Nat} (hn : fn.ntmps = n) {v : IV} (hv : v.flat = true) {keep : BL} {nx : Nat}
    (hk : keep.all (fun x => sameAt x.2 (St.H ⟨[], keep, nx⟩) x.1) = true) {s : St} (hs : s = ⟨List.replicate n undefI, keep, nx⟩) {l : List Code} (hl : flat c = l) (he : Run P n l 0 (EndQ T fn v keep) s) :
    SpEq P f [] (St.H ⟨[], keep, nx⟩) v (St.H ⟨[], keep, nx⟩) := Sp.pieces hT hf hb hn hv hk hs hl he
end Sx
