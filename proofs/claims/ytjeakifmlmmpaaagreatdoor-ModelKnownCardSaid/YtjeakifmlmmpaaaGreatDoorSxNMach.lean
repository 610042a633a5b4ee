/- The machine with many ways out: panics, deferred calls, walks over maps. What is plain is left to the plain machine. -/
import Derived.Test.YtjeakifmlmmpaaaGreatDoorSxDrawX
import Derived.Test.YtjeakifmlmmpaaaGreatDoorSxMemo
namespace Sx
open Go Go.RowKit
set_option linter.unusedSimpArgs false

inductive Res
  | ret (v : IV)
  | pan (v : Value)

abbrev NL := List (Out × Fr × H)

structure Xn where
  code : Option Nat → Nat → Code → Fr → H → Option NL
  cl : IV → List IV → H → Option (List (Res × H))

section
variable {α β : Type}
noncomputable def withL (l : List α) (k : α → Option (List β)) : Option (List β) :=
  List.rec (motive := fun _ => Option (List β)) (some []) (fun a _ ih => match k a with
    | some x => match ih with
      | some y => some (x ++ y)
      | none => none
    | none => none) l

theorem withL_mem {l : List α} {k : α → Option (List β)} : ∀ {r : List β}, withL l k = some r → ∀ a ∈ l, ∃ x, k a = some x ∧ ∀ b ∈ x, b ∈ r := by
  induction l with
  | nil => intro r _ a ha; cases ha
  | cons a l ih =>
    intro r e b hb
    have e1 : (match k a with
      | some x => match withL l k with
        | some y => some (x ++ y)
        | none => none
      | none => none) = some r := e
    split at e1
    case h_2 => cases e1
    rename_i x hx
    split at e1
    case h_2 => cases e1
    rename_i y hy
    cases e1
    rcases List.mem_cons.1 hb with rfl | hb
    · exact ⟨x, hx, fun c hc => List.mem_append_left _ hc⟩
    · obtain ⟨z, h1, h2⟩ := ih hy b hb
      exact ⟨z, h1, fun c hc => List.mem_append_right _ (h2 c hc)⟩
end

/-- A value of an interface that holds no pointer. -/
def cV : IV → Option Value
  | .iface t (.agg [.int k n]) => some (.iface t (.agg #[.int k n]))
  | _ => none
theorem cV_den {v : IV} {u : Value} (h : cV v = some u) : ∀ E, v.den E = u := by
  intro E
  unfold cV at h
  split at h
  · cases h; simp [IV.den, denL]
  · cases h

noncomputable def nput (d : Option Tmp) (v : IV) (fr : Fr) (k : Fr → Option NL) : Option NL := match fr with
  | ⟨tm, ms⟩ => kput d v tm ms k
theorem nput_eq (d : Option Tmp) (v : IV) (fr : Fr) (k : Fr → Option NL) : nput d v fr k = k (fr.put d v) := by
  obtain ⟨tm, ms⟩ := fr
  exact kput_eq ..

/-- The temporary that is kept where a drawn region panics. -/
def kT : Nat := 4
def noDst (ops : Array Oper) : Bool := ops.toList.all fun o => match o.dst with
  | some d => !Nat.beq d kT
  | none => true

/-! ### A region -/
noncomputable def nNext (o : Oper) (it : Operand) (fr : Fr) (h : H) (ih : Fr → H → Option NL) : Option NL := match evo fr.tm it with
  | some (.ptr b o') => match o' with
    | 0 => match h.get b with
      | some (.mapIter m since seen last, true) => match candI b m since seen last h with
        | some c => withL c fun x => nput o.dst x.1 fr fun fr => ih fr x.2
        | none => none
      | _ => none
    | _ => none
  | _ => none

noncomputable def nCall (X : Xn) (o : Oper) (fo : Operand) (args : List Operand) (fr : Fr) (h : H) (ih : Fr → H → Option NL) : Option NL :=
  withO (evo fr.tm fo) fun fv => withO (evos fr.tm args) fun vs => withO (X.cl fv vs h) fun l => withL l fun x => match x with
    | (.ret v, h1) => nput o.dst v fr fun fr => ih fr h1
    | (.pan u, h1) => some [(.panic u, fr, h1)]

noncomputable def nDefer (o : Oper) (c : Call) (rd : Option Nat) (fr : Fr) (h : H) (ih : Fr → H → Option NL) : Option NL := match rd with
  | some _ => none
  | none => match c.callee with
    | .value (.func f) => match c.args.toList with
      | [x] => match evo fr.tm x with
        | some (.ptr b 0) => nput o.dst undefI { fr with marks := .call f b :: fr.marks } fun fr => ih fr h
        | _ => none
      | _ => none
    | _ => none

noncomputable def nOdd (X : Xn) (rd : Option Nat) (o : Oper) (fr : Fr) (h : H) (ih : Fr → H → Option NL) : Option NL := match o.op with
  | .next it false => nNext o it fr h ih
  | .call c => match c.callee with
    | .value fo => nCall X o fo c.args.toList fr h ih
    | _ => none
  | .panic x => match evo fr.tm x with
    | some v => match cV v with
      | some u => some [(.panic u, fr, h)]
      | none => none
    | none => none
  | .defer c => nDefer o c rd fr h ih
  | _ => none

noncomputable def nops (r : Rn) (X : Xn) (T : Tr Ty) (rd : Option Nat) (ops : Array Oper) (l : List Oper) : Fr → H → Option NL :=
  List.rec (motive := fun _ => Fr → H → Option NL) (fun fr h => some [(.normal, fr, h)]) (fun o _ ih fr h => match wantedI ops fr.tm o with
    | true => match kop o.op r T fr.tm h fun v h1 => some (v, h1) with
      | some (v, h1) => nput o.dst v fr fun fr => ih fr h1
      | none => nOdd X rd o fr h ih
    | false => nput o.dst undefI fr fun fr => ih fr h) l

/-- A drawn region: up to a call that panics. -/
noncomputable def nPan (X : Xn) (T : Tr Ty) (ops : Array Oper) (n j : Nat) (o : Oper) (fr : Fr) (h : H) : Option NL := match o.op with
  | .call c => match c.callee with
    | .value fo => withO (evo fr.tm fo) fun fv => withO (evos fr.tm c.args.toList) fun vs => withO (X.cl fv vs h) fun l => match l with
      | [(.pan u, h1)] => match Pu.drawS T (fun _ => false) ops n && Pu.chkX T (fun _ => false) ops (befL ops.toList []) j && Pu.postX ops (befL ops.toList []) j && noDst ops with
        | true => some [(.panic u, fr, h1)]
        | false => none
      | _ => none
    | _ => none
  | _ => none

noncomputable def ndraw (r : Rn) (X : Xn) (T : Tr Ty) (ops : Array Oper) (n : Nat) (l : List Oper) : Nat → Fr → H → Option NL :=
  List.rec (motive := fun _ => Nat → Fr → H → Option NL) (fun _ _ _ => none) (fun o _ ih j fr h => match wantedI ops fr.tm o with
    | true => match kop o.op r T fr.tm h fun v h1 => some (v, h1) with
      | some (v, h1) => nput o.dst v fr fun fr => ih (Nat.succ j) fr h1
      | none => nPan X T ops n j o fr h
    | false => nput o.dst undefI fr fun fr => ih (Nat.succ j) fr h) l

/-! ### Statements -/
abbrev NC := Rn → Xn → Tr Ty → Option Nat → Nat → Fr → H → Option NL

noncomputable def nSeq (y : Code) (X : Xn) (rd : Option Nat) (n : Nat) (x : Out × Fr × H) : Option NL := match x with
  | (.normal, fr1, h1) => X.code rd n y fr1 h1
  | x => some [x]
noncomputable def nBlk (id : Nat) (x : Out × Fr × H) : Option NL := match x with
  | (.exit id', fr1, h1) => match Nat.beq id' id with
    | true => some [(.normal, fr1, h1)]
    | false => some [(.exit id', fr1, h1)]
  | x => some [x]

noncomputable def nhard (c : Code) : NC := match c with
  | .seq x y => fun _ X _ rd n fr h => withO (X.code rd n x fr h) fun l => withL l (nSeq y X rd n)
  | .cond c x y => fun _ X _ rd n fr h => kev c fr.tm fun v => match v with
    | .bool b => match b with
      | true => X.code rd n x fr h
      | false => X.code rd n y fr h
    | _ => none
  | .block id x => fun _ X _ rd n fr h => withO (X.code rd n x fr h) fun l => withL l (nBlk id)
  | .loop x => fun _ X _ rd n fr h => withO (X.code rd n x fr h) fun l => withL l (nSeq (.loop x) X rd n)
  | .region _ ops b => fun r X T rd n fr h => match b with
    | false => match dstOK ops n with
      | true => nops r X T rd ops ops.toList fr h
      | false => none
    | true => ndraw r X T ops n ops.toList 0 fr h
  | _ => fun _ _ _ _ _ _ _ => none

noncomputable def ncode (r : Rn) (X : Xn) (T : Tr Ty) (c : Code) (rd : Option Nat) (n : Nat) (fr : Fr) (h : H) : Option NL := match r.code rd n c fr h with
  | some x => some [x]
  | none => nhard c r X T rd n fr h

noncomputable def nend (T : Tr Ty) (fn : Func) (x : Out × Fr × H) : Option (List (Res × H)) := match x with
  | (.normal, fr, h) => match kret T fn fr h with
    | some (v, h1) => some [(.ret v, h1)]
    | none => none
  | (.ret, fr, h) => match kret T fn fr h with
    | some (v, h1) => some [(.ret v, h1)]
    | none => none
  | (.panic u, fr, h) => match fr.marks with
    | [] => some [(.pan u, h)]
    | _ => none
  | _ => none

noncomputable def nfun (T : Tr Ty) (X : Xn) (fn : Func) (vs0 : List IV) (h : H) : Option (List (Res × H)) := match okName fn with
  | true => none
  | false => match fn.body with
    | some c => match Nat.ble vs0.length fn.ntmps with
      | true => withO (X.code none fn.ntmps c ⟨mkTm vs0 0 .leaf, []⟩ h) fun l => withL l (nend T fn)
      | false => none
    | none => none

noncomputable def ncl (P : Program) (T : Tr Ty) (X : Xn) (fv : IV) (args : List IV) (h : H) : Option (List (Res × H)) := match fv with
  | .func g first cap => match g with
    | .func f => match knth P.funcs.toList f with
      | some fn => nfun T X fn (first ++ args ++ cap) h
      | none => none
    | _ => none
  | _ => none

noncomputable def nmach (P : Program) (T : Tr Ty) (r : Rn) (n : Nat) : Xn :=
  Nat.rec (motive := fun _ => Xn) ⟨fun _ _ _ _ _ => none, fun _ _ _ => none⟩ (fun _ X => ⟨fun rd n c fr h => ncode r X T c rd n fr h, fun fv args h => ncl P T X fv args h⟩) n

/-! ### Sound -/
/-- One of these ways out. (Where it panics, what the frame holds is open.) -/
def InL (l : NL) (o : Out) (fr : Fr) (h : H) : Prop := ∃ x ∈ l, x.1 = o ∧ x.2.2 = h ∧ x.2.1.marks = fr.marks ∧ (x.2.1 = fr ∨ (∃ v, o = .panic v) ∧ x.2.1.tm.tmp kT = fr.tm.tmp kT)

theorem InL.mono {l l' : NL} (hl : ∀ x ∈ l, x ∈ l') {o : Out} {fr : Fr} {h : H} (hx : InL l o fr h) : InL l' o fr h := by
  obtain ⟨x, h1, h2⟩ := hx
  exact ⟨x, hl x h1, h2⟩

theorem InL.one {o : Out} {fr : Fr} {h : H} {l : NL} (hl : (o, fr, h) ∈ l) : InL l o fr h := ⟨_, hl, rfl, rfl, rfl, .inl rfl⟩

structure SoundX (P : Program) (X : Xn) : Prop where
  code : ∀ rd n c fr h l, X.code rd n c fr h = some l → Ev P rd n c (InL l) fr h
  loop : ∀ rd n c fr h l, X.code rd n (.loop c) fr h = some l → EvLoop P rd n c (InL l) fr h
  cl : ∀ fv args h l, X.cl fv args h = some l → ClX P fv args h (fun v h' => (.ret v, h') ∈ l) (fun x h' => (.pan x, h') ∈ l)

theorem EvLoop.mono {P : Program} {rd : Option Nat} {ntmps : Nat} {c : Code} {Q Q' : Out → Fr → H → Prop} {fr : Fr} {h : H} (he : EvLoop P rd ntmps c Q fr h) (hq : ∀ o fr h, Q o fr h → Q' o fr h) : EvLoop P rd ntmps c Q' fr h := by
  intro w0 E w a hr hrd ha b k cs hro
  obtain ⟨e, a', w', ⟨o, fr', h', E', r1, r2, r3, r4, r5⟩, harr⟩ := he w0 E w a hr hrd ha b k cs hro
  exact ⟨e, a', w', ⟨o, fr', h', E', r1, r2, r3, r4, hq _ _ _ r5⟩, harr⟩

theorem wpOpsIn_postM {P : Program} {ntmps : Nat} {Q Q' : Out → Fr → H → Prop} (hq : ∀ o fr h, Q o fr h → Q' o fr h) {w0 : World} {E : Env} {h : H} {F : Fence} {ops : Array Oper} : ∀ {l : List Nat} {a : Act} {w : World},
    wpOpsIn F 0 P ops (Post P w0 E h ntmps Q) l a w → wpOpsIn F 0 P ops (Post P w0 E h ntmps Q') l a w := by
  have pm : ∀ {e a w}, Post P w0 E h ntmps Q e a w → Post P w0 E h ntmps Q' e a w := fun ⟨o, fr', h', E', r1, r2, r3, r4, r5⟩ => ⟨o, fr', h', E', r1, r2, r3, r4, hq _ _ _ r5⟩
  have nog : ∀ a w, Post P w0 E h ntmps Q .outgrown a w → False := fun a w ⟨o, _, _, _, e, _⟩ => by cases o <;> cases e
  intro l
  induction l with
  | nil => intro a w hp; exact pm hp
  | cons i l ih =>
    intro a w hp
    rw [wpOpsIn_cons] at hp ⊢
    unfold wpOpIn at hp ⊢
    split
    · next ho => rw [ho] at hp; exact ih hp
    · next o ho =>
      rw [ho] at hp
      simp only at hp
      split
      · next hw =>
        rw [hw] at hp
        simp only [if_true] at hp
        refine ⟨hp.1, ?_⟩
        have hp2 := hp.2
        generalize (o.semAt F.round a.eval).run P w = r at hp2 ⊢
        cases r with
        | ok nx w' =>
          cases nx <;> simp only [Oper.uponIn] at hp2 ⊢ <;> first
            | exact ih hp2
            | exact ⟨hp2.1, CallsIn.mono hp2.2 fun e w'' he => by
                cases e with
                | returned v => exact ih he
                | panicked c => exact pm he
                | outgrown => obtain ⟨a0, w1, he⟩ := he; exact (nog _ _ he).elim⟩
            | exact ⟨hp2.1, RowsIn.mono hp2.2 fun v w'' he => ih he⟩
            | exact ⟨hp2.1, RoundIn.mono hp2.2 fun e w'' he => by
                cases e with
                | returned v => exact ih he
                | panicked c => exact pm he
                | outgrown => obtain ⟨a0, w1, he⟩ := he; exact (nog _ _ he).elim⟩
            | exact hp2
        | halt hh w' => cases hh <;> simp only [Oper.uponIn] at hp2 ⊢ <;> first | exact pm hp2 | exact hp2
      · next hw =>
        have hw' : Region.wanted o (yielded ops a.tmps) = false := by simpa using hw
        rw [hw'] at hp
        simp only [Bool.false_eq_true, if_false] at hp
        exact ⟨hp.1, ih hp.2⟩

theorem EvO.mono {P : Program} {rd : Option Nat} {ntmps : Nat} {ops : Array Oper} {l : List Nat} {Q Q' : Out → Fr → H → Prop} {fr : Fr} {h : H} (he : EvO P rd ntmps ops l Q fr h) (hq : ∀ o fr h, Q o fr h → Q' o fr h) : EvO P rd ntmps ops l Q' fr h := by
  intro w0 E w a hr hrd ha
  exact wpOpsIn_postM hq (he w0 E w a hr hrd ha)

theorem Cl.clx {P : Program} {fv : IV} {args : List IV} {h : H} {Q : IV → H → Prop} {R : Value → H → Prop} (hx : ClX P fv args h Q R) (hR : ∀ x h', ¬ R x h') : Cl P fv args h Q := by
  intro w0 E w hr hu hu'
  have := hx w0 E w hr hu hu'
  unfold UponX at this
  unfold UponV
  split at this
  · rename_i f a w' hrun
    rw [hrun]
    refine CallsIn.mono this ?_
    rintro e w'' (⟨v, h', E', rfl, h2, h3, h4, h5⟩ | ⟨x, h', E', rfl, h2, h3, h4⟩)
    · exact ⟨v, h', E', rfl, h2, h3, h4, h5⟩
    · exact (hR _ _ h4).elim
  · exact this.elim

theorem ClX.mono {P : Program} {fv : IV} {args : List IV} {h : H} {Q Q' : IV → H → Prop} {R R' : Value → H → Prop} (hx : ClX P fv args h Q R) (hq : ∀ v h', Q v h' → Q' v h') (hr : ∀ v h', R v h' → R' v h') : ClX P fv args h Q' R' := by
  intro w0 E w h1 hu hu'
  have := hx w0 E w h1 hu hu'
  unfold UponX at this ⊢
  split at this
  · exact CallsIn.mono this fun _ _ he => he.mono hq hr
  · exact this.elim

section
variable {P : Program} {T : Tr Ty} (hT : TabOK P T) {r : Rn} (hr : SoundR P r) {X : Xn} (hX : SoundX P X) (hm : P.follows .mixedOrders = true)

theorem kopI {op : Op} {tm : Tm} {h : H} {v : IV} {h1 : H} (e : kop op r T tm h (fun v h1 => some (v, h1)) = some (v, h1)) :
    iop T tm h op = some (v, h1) ∨ ∃ c fo fv vs, op = .call c ∧ c.callee = .value fo ∧ evo tm fo = some fv ∧ evos tm c.args.toList = some vs ∧ r.cl fv vs h = some (v, h1) := by
  rw [kop_eq] at e
  unfold opS at e
  split at e
  · next v' h' hi => cases e; exact .inl hi
  · split at e
    · next c hi =>
      split at e
      · next fo hc =>
        obtain ⟨fv, hfv, e⟩ := withO_some e
        obtain ⟨vs, hvs, e⟩ := withO_some e
        obtain ⟨x, hcl, e⟩ := withO_some e
        cases e
        exact .inr ⟨c, fo, fv, vs, rfl, hc, hfv, hvs, hcl⟩
      · cases e
    · cases e

include hT hr hX in
theorem nops_sound {rd : Option Nat} {n : Nat} {ops : Array Oper} (hd : dstOK ops n = true) : ∀ {l : List Oper} {i : Nat} {fr : Fr} {h : H} {L : NL}, (∀ j, l[j]? = ops[i + j]?) → nops r X T rd ops l fr h = some L →
    EvO P rd n ops (List.range' i l.length) (InL L) fr h := by
  have hdst : ∀ (j : Nat) (o : Oper), ops[j]? = some o → ∀ k, o.dst = some k → k < n := fun j o ho k hk => by
    have := Array.all_eq_true_iff_forall_mem.1 hd o (Array.mem_of_getElem? ho)
    rw [hk] at this
    simpa [Nat.blt_eq] using this
  intro l
  induction l with
  | nil => intro i fr h L _ e; cases e; exact EvO.nil (.one (by simp))
  | cons o l ih =>
    intro i fr h L hl e
    have ho : ops[i]? = some o := by simpa using (hl 0).symm
    have hl' : ∀ j, l[j]? = ops[i + 1 + j]? := fun j => by have := hl (j + 1); rw [show i + 1 + j = i + (j + 1) by omega]; simpa using this
    have e1 : (match wantedI ops fr.tm o with
      | true => match kop o.op r T fr.tm h fun v h1 => some (v, h1) with
        | some (v, h1) => nput o.dst v fr fun fr => nops r X T rd ops l fr h1
        | none => nOdd X rd o fr h (nops r X T rd ops l)
      | false => nput o.dst undefI fr fun fr => nops r X T rd ops l fr h) = some L := e
    have hdi := hdst i o ho
    split at e1
    case h_2 hw => rw [nput_eq] at e1; exact EvO.skip ho hw hdi (ih hl' e1)
    rename_i hw
    split at e1
    · rename_i v h1 hk
      rw [nput_eq] at e1
      rcases kopI hk with hi | ⟨c, fo, fv, vs, hop, hc, hfv, hvs, hcl⟩
      · exact EvO.op hT ho hw hdi hi (ih hl' e1)
      · refine EvO.call ho hw hdi hop hc hfv hvs (Cl.mono (hr.cl _ _ _ _ _ hcl) ?_)
        rintro v' h' ⟨rfl, rfl⟩
        exact ih hl' e1
    · unfold nOdd at e1
      split at e1
      · rename_i it hop
        unfold nNext at e1
        split at e1
        case h_2 => cases e1
        rename_i b o' hit
        split at e1
        case h_2 => cases e1
        split at e1
        case h_2 => cases e1
        rename_i m since seen last hb
        split at e1
        case h_2 => cases e1
        rename_i c hc
        refine EvO.next ho hw hdi hop hit hb hc fun x hx => ?_
        obtain ⟨y, hy, hyL⟩ := withL_mem e1 x hx
        rw [nput_eq] at hy
        exact (ih hl' hy).mono fun _ _ _ hq => hq.mono hyL
      · rename_i c hop
        split at e1
        case h_2 => cases e1
        rename_i fo hc
        unfold nCall at e1
        obtain ⟨fv, hfv, e1⟩ := withO_some e1
        obtain ⟨vs, hvs, e1⟩ := withO_some e1
        obtain ⟨l1, hcl, e1⟩ := withO_some e1
        refine EvO.callX ho hw hdi hop hc hfv hvs (ClX.mono (hX.cl _ _ _ _ hcl) (fun v h' hv => ?_) fun x h' hx => ?_)
        · obtain ⟨y, hy, hyL⟩ := withL_mem e1 _ hv
          simp only [nput_eq] at hy
          exact (ih hl' hy).mono fun _ _ _ hq => hq.mono hyL
        · obtain ⟨y, hy, hyL⟩ := withL_mem e1 _ hx
          simp only at hy
          cases hy
          exact .one (hyL _ (by simp))
      · rename_i x hop
        split at e1
        case h_2 => cases e1
        rename_i v hv
        split at e1
        case h_2 => cases e1
        rename_i u hu
        cases e1
        have hcv := cV_den hu
        unfold cV at hu
        split at hu
        · exact EvO.panic ho hw hop hv hcv (.one (by simp))
        · cases hu
      · rename_i c hop
        unfold nDefer at e1
        split at e1
        case h_1 => cases e1
        split at e1
        case h_2 => cases e1
        rename_i f hc
        split at e1
        case h_2 => cases e1
        rename_i x hx
        split at e1
        case h_2 => cases e1
        rename_i b hb
        rw [nput_eq] at e1
        exact EvO.defer ho hw hdi hop hc hx hb (ih hl' e1)
      · cases e1

include hT hr hX hm in
theorem ndraw_sound {rd : Option Nat} {id n : Nat} {ops : Array Oper} {fr0 : Fr} {h0 : H} : ∀ {l : List Oper} {j : Nat} {fr : Fr} {h : H} {L : NL} , (∀ i, l[i]? = ops[j + i]?) → fr.marks = fr0.marks → (noDst ops = true → fr.tm.tmp kT = fr0.tm.tmp kT) →
    (∀ tr fr' h' l', Pu.TRun P T (fun _ => false) ops l' fr h tr fr' h' → ∃ tr', Pu.TRun P T (fun _ => false) ops (ops.toList.take j ++ l') fr0 h0 tr' fr' h') →
    ndraw r X T ops n l j fr h = some L → Ev P rd n (.region id ops true) (InL L) fr0 h0 := by
  intro l
  induction l with
  | nil => intro j fr h L _ _ _ _ e; cases e
  | cons o l ih =>
    intro j fr h L hl hmk hkt hrun e
    have ho : ops[j]? = some o := by simpa using (hl 0).symm
    have hl' : ∀ i, l[i]? = ops[j + 1 + i]? := fun i => by have := hl (i + 1); rw [show j + 1 + i = j + (i + 1) by omega]; simpa using this
    have htake : ops.toList.take (j + 1) = ops.toList.take j ++ [o] := by
      rw [List.take_add_one]
      simp [ho]
    have hstep : ∀ {fr1 : Fr} {h1 : H} {v : IV}, (∀ tr fr' h' l', Pu.TRun P T (fun _ => false) ops l' fr1 h1 tr fr' h' → Pu.TRun P T (fun _ => false) ops (o :: l') fr h ((v, h1) :: tr) fr' h') →
        ∀ tr fr' h' l', Pu.TRun P T (fun _ => false) ops l' fr1 h1 tr fr' h' → ∃ tr', Pu.TRun P T (fun _ => false) ops (ops.toList.take (j + 1) ++ l') fr0 h0 tr' fr' h' := by
      intro fr1 h1 v hs tr fr' h' l' ht
      obtain ⟨tr', ht'⟩ := hrun _ _ _ _ (hs _ _ _ _ ht)
      rw [htake, List.append_assoc]
      exact ⟨tr', ht'⟩
    have hmk' : ∀ v, (fr.put o.dst v).marks = fr0.marks := fun v => by rw [← hmk]; unfold Fr.put; split <;> rfl
    have hkt' : ∀ v, noDst ops = true → (fr.put o.dst v).tm.tmp kT = fr0.tm.tmp kT := fun v hn => by
      rw [← hkt hn]
      unfold Fr.put
      split
      · rename_i d hd
        have := List.all_eq_true.1 hn o (Array.mem_toList_iff.2 (Array.mem_of_getElem? ho))
        rw [hd] at this
        simp only [Bool.not_eq_true'] at this
        simp only [tmp_set]
        rw [if_neg]
        intro e2
        rw [e2] at this
        simp at this
      · rfl
    have e1 : (match wantedI ops fr.tm o with
      | true => match kop o.op r T fr.tm h fun v h1 => some (v, h1) with
        | some (v, h1) => nput o.dst v fr fun fr => ndraw r X T ops n l (Nat.succ j) fr h1
        | none => nPan X T ops n j o fr h
      | false => nput o.dst undefI fr fun fr => ndraw r X T ops n l (Nat.succ j) fr h) = some L := e
    split at e1
    case h_2 hw => rw [nput_eq] at e1; exact ih hl' (hmk' _) (hkt' _) (hstep fun _ _ _ _ ht => .skip hw ht) e1
    rename_i hw
    split at e1
    · rename_i v h1 hk
      rw [nput_eq] at e1
      rcases kopI hk with hi | ⟨c, fo, fv, vs, hop, hc, hfv, hvs, hcl⟩
      · exact ih hl' (hmk' _) (hkt' _) (hstep fun _ _ _ _ ht => .op hw hi ht) e1
      · exact ih hl' (hmk' _) (hkt' _) (hstep fun _ _ _ _ ht => .call hw rfl hop hc hfv hvs (hr.cl _ _ _ _ _ hcl) ht) e1
    · unfold nPan at e1
      split at e1
      case h_2 => cases e1
      rename_i c hop
      split at e1
      case h_2 => cases e1
      rename_i fo hc
      obtain ⟨fv, hfv, e1⟩ := withO_some e1
      obtain ⟨vs, hvs, e1⟩ := withO_some e1
      obtain ⟨l1, hcl, e1⟩ := withO_some e1
      split at e1
      case h_2 => cases e1
      rename_i u h1
      split at e1
      case h_2 => cases e1
      rename_i hchk
      cases e1
      simp only [Bool.and_eq_true] at hchk
      obtain ⟨tr', ht'⟩ := hrun [] fr h [] .nil
      rw [List.append_nil] at ht'
      refine Pu.Ev.region_textX (v := u) (hp := h1) hT hm (fun o h => by cases h) hchk.1.1.1 ht' (Pu.DynX.of_chk hchk.1.1.2) hchk.1.2 ho hw ?_ hop hc hfv hvs (ClX.mono (hX.cl _ _ _ _ hcl) (fun v h' hv => ?_) fun x h' hx => ?_) fun fr2 hf2 hf3 => ?_
      · obtain ⟨callee, args, argTypes⟩ := c
        simp only at hc
        subst hc
        simp [Pu.effP, hop, effOp]
      · simp at hv
      · simpa using hx
      · exact ⟨_, List.mem_singleton.2 rfl, rfl, rfl, by rw [hf2, hmk], .inr ⟨⟨_, rfl⟩, by
          rw [hkt hchk.2, hf3 kT fun j hj => ?_]
          unfold dstAt at hj
          cases hoj : ops[j]? with
          | none => rw [hoj] at hj; cases hj
          | some oj =>
            rw [hoj] at hj
            simp only [Option.bind_some] at hj
            have := List.all_eq_true.1 hchk.2 oj (Array.mem_toList_iff.2 (Array.mem_of_getElem? hoj))
            rw [hj] at this
            simp at this⟩⟩

theorem nSeq_sound' {y : Code} {rd : Option Nat} {n : Nat} {l L : NL} (e : withL l (nSeq y X rd n) = some L) {K : Fr → H → Prop} (hK : ∀ fr h l1, X.code rd n y fr h = some l1 → (∀ x ∈ l1, x ∈ L) → K fr h) {o : Out} {fr : Fr} {h : H} (hin : InL l o fr h) :
    Out.next K (InL L) o fr h := by
  obtain ⟨⟨o1, fr1, h1⟩, hx, rfl, rfl, hmk, hfr⟩ := hin
  obtain ⟨y1, hy, hyL⟩ := withL_mem e _ hx
  cases o1 with
  | normal =>
    rcases hfr with rfl | ⟨⟨v, hv⟩, _⟩
    · exact hK _ _ _ hy hyL
    · cases hv
  | _ => cases hy; exact ⟨_, hyL _ (by simp), rfl, rfl, hmk, hfr⟩

include hX in
theorem nLoop_sound {c : Code} {rd : Option Nat} {n : Nat} {fr : Fr} {h : H} {L : NL} (e : nhard (.loop c) r X T rd n fr h = some L) : EvLoop P rd n c (InL L) fr h := by
  obtain ⟨l, hl, e⟩ := withO_some (k := fun l => withL l (nSeq (.loop c) X rd n)) e
  refine EvLoop.round ((hX.code _ _ _ _ _ _ hl).mono fun o fr1 h1 hin => nSeq_sound' e (fun fr2 h2 l1 h3 h4 => ?_) hin)
  exact (hX.loop _ _ _ _ _ _ h3).mono fun _ _ _ hq => hq.mono h4

include hT hr hX hm in
theorem nhard_sound {c : Code} {rd : Option Nat} {n : Nat} {fr : Fr} {h : H} {L : NL} (e : nhard c r X T rd n fr h = some L) : Ev P rd n c (InL L) fr h := by
  cases c with
  | seq x y =>
    obtain ⟨l, hl, e⟩ := withO_some (k := fun l => withL l (nSeq y X rd n)) e
    refine Ev.seq ((hX.code _ _ _ _ _ _ hl).mono fun o fr1 h1 hin => nSeq_sound' e (fun fr2 h2 l1 h3 h4 => ?_) hin)
    exact (hX.code _ _ _ _ _ _ h3).mono fun _ _ _ hq => hq.mono h4
  | cond c x y =>
    have e1 : kev c fr.tm (fun v => match v with
      | .bool b => match b with
        | true => X.code rd n x fr h
        | false => X.code rd n y fr h
      | _ => none) = some L := e
    rw [kev_eq] at e1
    obtain ⟨v, hv, e1⟩ := withO_some e1
    cases v with
    | bool b => cases b <;> exact Ev.cond hv (hX.code _ _ _ _ _ _ e1)
    | _ => cases e1
  | block id x =>
    obtain ⟨l, hl, e⟩ := withO_some (k := fun l => withL l (nBlk id)) e
    refine Ev.block ((hX.code _ _ _ _ _ _ hl).mono fun o fr1 h1 hin => ?_)
    obtain ⟨⟨o1, fr1', h1'⟩, hx, rfl, rfl, hmk, hfr⟩ := hin
    obtain ⟨y1, hy, hyL⟩ := withL_mem e _ hx
    cases o1 with
    | exit id' =>
      simp only [Out.block]
      simp only [nBlk] at hy
      rcases hfr with rfl | ⟨⟨v, hv⟩, _⟩
      case inr => cases hv
      split at hy
      · next hb => cases hy; rw [if_pos (Nat.eq_of_beq_eq_true hb)]; exact .one (hyL _ (by simp))
      · next hb =>
        cases hy
        rw [if_neg (fun e2 => by rw [e2] at hb; simp at hb)]
        exact .one (hyL _ (by simp))
    | _ => cases hy; exact ⟨_, hyL _ (by simp), rfl, rfl, hmk, hfr⟩
  | loop x => exact Ev.loop (nLoop_sound hX e)
  | region id ops b =>
    cases b with
    | false =>
      have e1 : (match dstOK ops n with
        | true => nops r X T rd ops ops.toList fr h
        | false => none) = some L := e
      split at e1
      case h_2 => cases e1
      rename_i hd
      have := nops_sound hT hr hX hd (i := 0) (fun j => by simp) e1
      rw [Array.length_toList, ← List.range_eq_range'] at this
      exact Ev.regionO this
    | true => exact ndraw_sound hT hr hX hm (j := 0) (fun i => by simp) rfl (fun _ => rfl) (fun tr fr' h' l' ht => ⟨tr, by simpa using ht⟩) e
  | _ => cases e

include hT hr hX hm in
theorem ncode_sound {c : Code} {rd : Option Nat} {n : Nat} {fr : Fr} {h : H} {L : NL} (e : ncode r X T c rd n fr h = some L) : Ev P rd n c (InL L) fr h := by
  unfold ncode at e
  split at e
  · rename_i x hx
    obtain ⟨o, fr1, h1⟩ := x
    cases e
    refine Ev.mono (hr.code _ _ _ _ _ _ _ _ hx) ?_
    rintro o2 f2 h2 ⟨rfl, rfl, rfl⟩
    exact .one (by simp)
  · exact nhard_sound hT hr hX hm e

theorem nend_sound {fn : Func} {l : NL} {L : List (Res × H)} (e : withL l (nend T fn) = some L) {o : Out} {fr : Fr} {h : H} (hin : InL l o fr h) :
    BodyX T fn.results.toList (fun v h' => (.ret v, h') ∈ L) (fun x h' => (.pan x, h') ∈ L) o fr h := by
  obtain ⟨⟨o1, fr1, h1⟩, hx, rfl, rfl, hmk, hfr⟩ := hin
  obtain ⟨y1, hy, hyL⟩ := withL_mem e _ hx
  have bq : ∀ {o : Out} {v : IV} {h2 : H}, o = .normal ∨ o = .ret → kret T fn fr h1 = some (v, h2) → ((.ret v, h2) : Res × H) ∈ L → BodyX T fn.results.toList (fun v h' => (.ret v, h') ∈ L) (fun x h' => (.pan x, h') ∈ L) o fr h1 := by
    intro o v h2 ho hk hv
    obtain ⟨q1, h3, vs, q2, q3, q4, q5⟩ := kret_spec ho hk
    exact .inl ⟨q1, h3, vs, q2, q3, by rw [q4, q5]; exact hv⟩
  cases o1 with
  | normal =>
    rcases hfr with rfl | ⟨⟨v, hv⟩, _⟩
    case inr => cases hv
    simp only [nend] at hy
    split at hy
    case h_2 => cases hy
    rename_i v h2 hk
    cases hy
    exact bq (.inl rfl) hk (hyL _ (by simp))
  | ret =>
    rcases hfr with rfl | ⟨⟨v, hv⟩, _⟩
    case inr => cases hv
    simp only [nend] at hy
    split at hy
    case h_2 => cases hy
    rename_i v h2 hk
    cases hy
    exact bq (.inr rfl) hk (hyL _ (by simp))
  | panic u =>
    simp only [nend] at hy
    split at hy
    case h_2 => cases hy
    rename_i hm0
    cases hy
    simp only at hmk
    exact .inr ⟨u, rfl, by rw [← hmk]; exact hm0, hyL _ (by simp)⟩
  | _ => cases hy

include hT hX in
theorem nfun_sound {f : Nat} {fn : Func} (hf : P.funcs[f]? = some fn) {args : List IV} {h : H} {L : List (Res × H)} (e : nfun T X fn args h = some L) :
    SpX P f args h (fun v h' => (.ret v, h') ∈ L) (fun x h' => (.pan x, h') ∈ L) ∧ Go.Proofs.Enters P f := by
  unfold nfun at e
  split at e
  · cases e
  rename_i hn
  split at e
  case h_2 => cases e
  rename_i c hb
  split at e
  case h_2 => cases e
  rename_i hl
  obtain ⟨l, hx, e⟩ := withO_some e
  exact ⟨SpX.of_ev hT hf hb (Nat.le_of_ble_eq_true hl) ((hX.code _ _ _ _ _ _ hx).mono fun o fr h hin => nend_sound e hin), enters hf hn hb⟩

include hT hX in
theorem ncl_sound {fv : IV} {args : List IV} {h : H} {L : List (Res × H)} (e : ncl P T X fv args h = some L) : ClX P fv args h (fun v h' => (.ret v, h') ∈ L) (fun x h' => (.pan x, h') ∈ L) := by
  unfold ncl at e
  split at e
  case h_2 => cases e
  rename_i g first cap
  split at e
  case h_2 => cases e
  rename_i f
  rw [knth_eq, Array.getElem?_toList] at e
  split at e
  case h_2 => cases e
  rename_i fn hf
  obtain ⟨h1, h2⟩ := nfun_sound hT hX hf e
  exact ClX.of_sp h2 h1
end

theorem nmach_sound {P : Program} {T : Tr Ty} (hT : TabOK P T) (hm : P.follows .mixedOrders = true) {r : Rn} (hr : SoundR P r) : ∀ n, SoundX P (nmach P T r n) := by
  intro n
  induction n with
  | zero => exact ⟨fun _ _ _ _ _ _ e => (nomatch e), fun _ _ _ _ _ _ e => (nomatch e), fun _ _ _ _ e => (nomatch e)⟩
  | succ n ih =>
    refine ⟨fun rd k c fr h l e => ncode_sound hT hr ih hm e, fun rd k c fr h l e => ?_, fun fv args h l e => ncl_sound hT ih e⟩
    have e1 : ncode r (nmach P T r n) T (.loop c) rd k fr h = some l := e
    unfold ncode at e1
    split at e1
    · rename_i x hx
      obtain ⟨o, fr1, h1⟩ := x
      cases e1
      refine (hr.loop _ _ _ _ _ _ _ _ hx).mono ?_
      rintro o2 f2 h2 ⟨rfl, rfl, rfl⟩
      exact .one (by simp)
    · exact nLoop_sound ih e1
end Sx
