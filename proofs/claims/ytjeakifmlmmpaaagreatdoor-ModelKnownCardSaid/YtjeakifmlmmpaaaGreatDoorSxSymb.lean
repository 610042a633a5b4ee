/- A body as a list of its parts; loops by what holds at their heads. -/
import Derived.Test.YtjeakifmlmmpaaaGreatDoorSxSym
namespace Sx
open Go Go.RowKit
set_option linter.unusedSimpArgs false

def bodyC (P : Program) (f : Nat) : Code := ((P.funcs[f]?).bind fun fn => fn.body).getD .skip
def flat : Code → List Code
  | .seq x y => flat x ++ flat y
  | c => [c]
def loopAt (l : List Code) (k : Nat) : Code := match l[k]? with
  | some (.block _ (.loop b)) => b
  | some (.loop b) => b
  | _ => .skip

def rangeA (l : List Code) (k : Nat) : Code := match l[k]? with
  | some (Code.block _ (Code.rangeFunc _ _ a _)) => a
  | _ => .skip
def rangeB (l : List Code) (k : Nat) : Code := match l[k]? with
  | some (Code.block _ (Code.rangeFunc _ _ _ b)) => b
  | _ => .skip

section
variable (P : Program) (rd : Option Nat) (n : Nat)
def EvS : List Code → (Out → Fr → H → Prop) → Fr → H → Prop
  | [], Q => Q .normal
  | c :: cs, Q => Ev P rd n c (Out.next (EvS cs Q) Q)
end

section
variable {P : Program} {rd : Option Nat} {n : Nat}

theorem EvS.mono {Q Q' : Out → Fr → H → Prop} (hq : ∀ o fr h, Q o fr h → Q' o fr h) : ∀ {l : List Code} {fr : Fr} {h : H}, EvS P rd n l Q fr h → EvS P rd n l Q' fr h
  | [], _, _, he => hq _ _ _ he
  | c :: cs, fr, h, he => Ev.mono (c := c) he fun o fr h ho => by
    cases o with
    | normal => exact EvS.mono hq ho
    | _ => exact hq _ _ _ ho

theorem next_next {K : Fr → H → Prop} {K' : Fr → H → Prop} {Q : Out → Fr → H → Prop} {o : Out} {fr : Fr} {h : H} (ho : Out.next K Q o fr h) : Out.next K (Out.next K' Q) o fr h := by
  cases o <;> exact ho

theorem EvS.flat : ∀ (c : Code) (cs : List Code) {Q : Out → Fr → H → Prop} {fr : Fr} {h : H}, EvS P rd n (Sx.flat c ++ cs) Q fr h → EvS P rd n (c :: cs) Q fr h := by
  intro c
  induction c with
  | seq x y ihx ihy =>
    intro cs Q fr h he
    simp only [Sx.flat, List.append_assoc] at he
    have h1 := ihx _ he
    refine Ev.seq (Ev.mono (c := x) h1 ?_)
    intro o fr h ho
    cases o with
    | normal => exact ihy cs ho
    | _ => exact ho
  | _ => intro cs Q fr h he; exact he

theorem Ev.of_flat {c : Code} {Q : Out → Fr → H → Prop} {fr : Fr} {h : H} {l : List Code} (hl : Sx.flat c = l) (he : EvS P rd n l Q fr h) : Ev P rd n c Q fr h := by
  subst hl
  have h1 : EvS P rd n (c :: []) Q fr h := EvS.flat c [] (by simpa using he)
  refine Ev.mono (c := c) h1 fun o fr h ho => ?_
  cases o <;> exact ho
end

/-! ### A run over parts -/
def pSeqs (r : Pn) (f : Nat) (rd : Option Nat) (n : Nat) : List Code → Fr → H → Option (Out × Fr × H × List Prop)
  | [], fr, h => some (.normal, fr, h, [])
  | c :: cs, fr, h => match r.code f rd n c fr h with
    | none => none
    | some (o, fr1, h1, ob) => match o with
      | .normal => match pSeqs r f rd n cs fr1 h1 with
        | none => none
        | some (o2, fr2, h2, ob2) => some (o2, fr2, h2, ob ++ ob2)
      | o => some (o, fr1, h1, ob)

theorem pSeqs_sound {P : Program} {r : Pn} (hr : SoundP P r) {f : Nat} {rd : Option Nat} {n : Nat} {post : List Code} {Q : Out → Fr → H → Prop} : ∀ {pre : List Code} {fr : Fr} {h : H} {o : Out} {fr' : Fr} {h' : H} {ob : List Prop},
    pSeqs r f rd n pre fr h = some (o, fr', h', ob) → AllP ob → Out.next (EvS P rd n post Q) Q o fr' h' → EvS P rd n (pre ++ post) Q fr h
  | [], fr, h, o, fr', h', ob, e, _, hq => by cases e; exact hq
  | c :: cs, fr, h, o, fr', h', ob, e, hob, hq => by
    simp only [pSeqs] at e
    split at e
    case h_1 => cases e
    rename_i o1 fr1 h1 ob1 hx
    cases o1 with
    | normal =>
      simp only at e
      split at e
      case h_1 => cases e
      rename_i o2 fr2 h2 ob2 hy
      cases e
      have hb := AllP.append hob
      refine Ev.mono (c := c) (hr.code _ _ _ _ _ _ _ _ _ _ hx hb.1) ?_
      rintro o2 f2 h2 ⟨rfl, rfl, rfl⟩
      exact pSeqs_sound hr hy hb.2 hq
    | _ =>
      cases e
      refine Ev.mono (c := c) (hr.code _ _ _ _ _ _ _ _ _ _ hx hob) ?_
      rintro o2 f2 h2 ⟨rfl, rfl, rfl⟩
      exact hq

noncomputable def psR (P : Program) (T : Tr Ty) (oc : Nat → Nat → Option It) (fuel f : Nat) (rd : Option Nat) (n : Nat) (l : List Code) (fr : Fr) (h : H) (live : List Nat) : Option (Out × List IV × H × List Mk × List Prop) :=
  match pSeqs (pMach P T oc fuel) f rd n l fr h with
  | some (o, fr', h', ob) => some (o, live.map fr'.tm.tmp, h', fr'.marks, ob)
  | none => none

section
variable {P : Program} {T : Tr Ty} (hT : TabOK P T) (hm : P.follows .mixedOrders = true)

theorem EvS.canon {rd : Option Nat} {n : Nat} {l : List Code} {Q : Out → Fr → H → Prop} {fr : Fr} {h : H} {F : Nat → IV} {ms : List Mk} (hf : FrIs n fr F ms) (hl : l ≠ []) (he : EvS P rd n l Q (Sx.canon n F ms) h) : EvS P rd n l Q fr h := by
  cases l with
  | nil => exact absurd rfl hl
  | cons c cs => exact Ev.canon (c := c) hf he

include hT hm in
theorem EvS.px {oc : Nat → Nat → Option It} {fuel f : Nat} {rd : Option Nat} {n : Nat} {pre post : List Code} {fr : Fr} {h : H} {F : Nat → IV} {ms : List Mk}
    {live : List Nat} {o : Out} {vals : List IV} {h' : H} {ms' : List Mk} {ob : List Prop} {Q : Out → Fr → H → Prop} (hf : FrIs n fr F ms) (hpre : (pre ++ post) ≠ [])
    (hrun : psR P T oc fuel f rd n pre (Sx.canon n F ms) h live = some (o, vals, h', ms', ob)) (hob : AllP ob) (hk : ∀ fr' g, FrIs n fr' (ov live vals g) ms' → Out.next (EvS P rd n post Q) Q o fr' h') : EvS P rd n (pre ++ post) Q fr h := by
  refine EvS.canon hf hpre ?_
  unfold psR at hrun
  split at hrun
  case h_2 => cases hrun
  rename_i o1 fr1 h1 ob1 hx
  cases hrun
  exact pSeqs_sound (pMach_sound hT hm oc fuel) hx hob (hk fr1 fr1.tm.tmp ⟨rfl, fun j _ => (ov_self _ _ _).symm⟩)

include hT hm in
theorem EvS.pxEnd {oc : Nat → Nat → Option It} {fuel f : Nat} {rd : Option Nat} {n : Nat} {pre : List Code} {fr : Fr} {h : H} {F : Nat → IV} {ms : List Mk}
    {live : List Nat} {o : Out} {vals : List IV} {h' : H} {ms' : List Mk} {ob : List Prop} {Q : Out → Fr → H → Prop} (hf : FrIs n fr F ms) (hpre : pre ≠ [])
    (hrun : psR P T oc fuel f rd n pre (Sx.canon n F ms) h live = some (o, vals, h', ms', ob)) (hob : AllP ob) (hk : ∀ fr' g, FrIs n fr' (ov live vals g) ms' → Q o fr' h') : EvS P rd n pre Q fr h := by
  have := EvS.px (post := []) hT hm (Q := Q) hf (by rw [List.append_nil]; exact hpre) hrun hob fun fr' g hf' => by
    have := hk fr' g hf'
    cases o <;> exact this
  rw [List.append_nil] at this
  exact this

/-- What a round must leave. -/
def RoundEnds (P : Program) (rd : Option Nat) (n id : Nat) (post : List Code) (Q : Out → Fr → H → Prop) (I : Nat → Fr → H → Prop) (m : Nat) : Out → Fr → H → Prop
  | .normal, fr, h => ∃ m', m' < m ∧ I m' fr h
  | .exit id', fr, h => if id' = id then EvS P rd n post Q fr h else Q (.exit id') fr h
  | o, fr, h => Q o fr h

theorem RoundEnds.out {rd : Option Nat} {n id : Nat} {post : List Code} {Q : Out → Fr → H → Prop} {I : Nat → Fr → H → Prop} {m : Nat} {fr : Fr} {h : H} (he : EvS P rd n post Q fr h) :
    RoundEnds P rd n id post Q I m (.exit id) fr h := by
  simp only [RoundEnds, if_true]
  exact he

theorem EvS.loop {rd : Option Nat} {n id : Nat} {body : Code} {post : List Code} {Q : Out → Fr → H → Prop} {fr : Fr} {h : H} (I : Nat → Fr → H → Prop) (m : Nat) (hI : I m fr h)
    (round : ∀ m fr h, I m fr h → Ev P rd n body (RoundEnds P rd n id post Q I m) fr h) : EvS P rd n (.block id (.loop body) :: post) Q fr h := by
  refine Ev.block (Ev.loop (EvLoop.inv I (fun m fr h hi => Ev.mono (round m fr h hi) ?_) m fr h hI))
  intro o fr h ho
  cases o with
  | normal => exact ho
  | exit id' =>
    simp only [RoundEnds] at ho
    simp only [Out.next, Out.block]
    split
    · next e => rw [if_pos e] at ho; exact ho
    · next e => rw [if_neg e] at ho; exact ho
  | _ => exact ho
end

/-- A frame at a function's start. -/
theorem FrIs.start (n : Nat) (args : List IV) : FrIs n ⟨mkTm args 0 .leaf, []⟩ (fun j => args.getD j undefI) [] := by
  refine ⟨rfl, fun j _ => ?_⟩
  rw [mkTm_tmp]
  by_cases hj : j < args.length
  · rw [if_pos (by omega), Nat.sub_zero]
  · rw [if_neg (by omega)]
    simp [Tr.tmp, Tr.get, List.getD, List.getElem?_eq_none (Nat.le_of_not_lt hj)]

theorem bodyQ_tmp {T : Tr Ty} {n r : Nat} {fr : Fr} {F : Nat → IV} {h : H} {v : IV} {o : Out} (hf : FrIs n fr F []) (hr : r < n) (hv : F r = v) (ho : o = .normal ∨ o = .ret) :
    BodyQ T [.tmp r] (fun v2 h2 => v2 = v ∧ h2 = h) o fr h := by
  refine ⟨ho, h, [fr.tm.tmp r], ?_, rfl, ?_, rfl⟩
  · rw [hf.1]; rfl
  · show fr.tm.tmp r = v
    rw [hf.2 r hr, hv]

/-- Only what is answered, at the empty heap. -/
noncomputable def pfV (P : Program) (T : Tr Ty) (oc : Nat → Nat → Option It) (fuel f : Nat) (args : List IV) : Option (IV × List Prop) :=
  match pfR P T oc fuel f args ⟨.leaf, 0⟩ with
  | some (v, _, ob) => some (v, ob)
  | none => none

theorem Sp.pxV {P : Program} {T : Tr Ty} (hT : TabOK P T) (hm : P.follows .mixedOrders = true) {oc : Nat → Nat → Option It} {fuel f : Nat} {args : List IV} {v : IV} {ob : List Prop} (hv : v.flat = true)
    (hrun : pfV P T oc fuel f args = some (v, ob)) (hob : AllP ob) : SpEq P f args ⟨.leaf, 0⟩ v ⟨.leaf, 0⟩ := by
  unfold pfV at hrun
  split at hrun
  case h_2 => cases hrun
  rename_i v1 h1 ob1 hx
  cases hrun
  refine Sp.forget hv (Sp.mono (Sp.px hT hm hx hob) ?_)
  rintro v2 h2 ⟨rfl, rfl⟩
  exact ⟨rfl, fun i x hi => by simp [H.get, Tr.get] at hi⟩

/-- A call at the empty heap, at any heap. -/
theorem Sp.anyH {P : Program} {f : FuncId} {args : List IV} {v : IV} (hen : Go.Proofs.Enters P f) (ha : underLB 0 args = true) (hv : v.flat = true) (hr : renL (fun i => i) args = args) (hs : SpEq P f args ⟨.leaf, 0⟩ v ⟨.leaf, 0⟩) (h : H) : SpEq P f args h v h := by
  have hk : (⟨f, args, [], v, none⟩ : Fact).Holds P := ⟨by simp [Fact.ok, hv, ha], hen, _, hs, fun r cs e h => by cases h⟩
  exact Fact.big hk (H0 := h) (g := fun i => i) (fun i cs e hi => by simp at hi) (fun i j hi => by simp at hi) hr.symm

/-! ### A call that makes one block, and is forgotten but for that -/
theorem Sp.keepOut {P : Program} {f : FuncId} {args : List IV} {h : H} {v : IV} {cs : List IV} {e : TypeId} (hcs : flatL cs = true) (hv : v.under 1)
    (hs : Sp P f args h fun v' h' => ∃ r, v' = v.ren (fun _ => r) ∧ h'.get r = some (.cells cs e, true) ∧ h.next ≤ r ∧ ∀ i x, h.get i = some x → h'.get i = some x) :
    SpEq P f args h (v.ren fun _ => h.next) (h.new (.cells cs e)) := by
  intro w0 E w hr hu
  refine (hs w0 E w hr hu).mono ?_
  rintro ev w' ⟨v', h2, E', rfl, hr', hs', hv', r, rfl, hg, hrn, hk⟩
  obtain ⟨⟨extra, lo, hh, a1, a2, a3, a4⟩, hlt⟩ := hr'.obj _ _ _ hg
  let E2 : Env := ⟨fun i => if i = h.next then E'.ρ r else E'.ρ i, fun i => if i = h.next then E'.κ r else E'.κ i⟩
  have hlow : ∀ i, i < h.next → E2.ρ i = E'.ρ i ∧ E2.κ i = E'.κ i := fun i hi => ⟨if_neg (by omega), if_neg (by omega)⟩
  have hx : Ext h.next E E2 := fun i hi => ⟨(hlow i hi).1.trans (hs'.ext i hi).1, (hlow i hi).2.trans (hs'.ext i hi).2⟩
  have hat : E2.ρ h.next = E'.ρ r := if_pos rfl
  have hak : E2.κ h.next = E'.κ r := if_pos rfl
  refine ⟨v.ren fun _ => h.next, h.new (.cells cs e), E2, ?_, ?_, ⟨hx, Nat.le_succ _⟩, ?_, rfl, rfl⟩
  · rw [IV.den_ren, IV.den_ren]
    congr 2
    simp only [Env.ren, hat, hak]
  · have old := (hr.forget hr' hk)
    refine ⟨old.below, ?_, ?_, ?_, ?_⟩
    · intro i x hi
      rw [H.get_new] at hi
      by_cases e1 : h.next = i
      · simp; omega
      · rw [if_neg e1] at hi
        have := old.dom _ _ hi
        simp; omega
    · intro i o wr hi
      rw [H.get_new] at hi
      by_cases e1 : h.next = i
      · subst e1
        rw [if_pos rfl] at hi
        cases hi
        rw [hat]
        refine ⟨⟨extra, lo, hh, ?_, ?_, underL_of_flat _ _ hcs, ?_⟩, hlt⟩
        · rw [den_flat (E := E2) (E' := E') hcs]; exact a1
        · rw [den_flat (E := E2) (E' := E') hcs]; exact a2
        · rw [den_flat (E := E2) (E' := E') hcs, hak]; exact a4
      · rw [if_neg e1] at hi
        have hil := old.dom _ _ hi
        obtain ⟨b1, b2⟩ := old.obj i o wr hi
        rw [(hlow i hil).1]
        exact ⟨b1.mono (fun j hj => hlow j hj) hil (Nat.le_succ _), b2⟩
    · intro i o hi
      rw [H.get_new] at hi
      by_cases e1 : h.next = i
      · subst e1
        rw [hat]
        exact hr'.wr _ _ hg
      · rw [if_neg e1] at hi
        rw [(hlow i (old.dom _ _ hi)).1]
        exact old.wr i o hi
    · intro i j x y hi hj hw he
      rw [H.get_new] at hi hj
      have inj2 : ∀ i x, h.get i = some x → E'.ρ i = E'.ρ r → False := fun i x hi he2 => by
        have := hr'.inj i r _ _ (hk i x hi) hg (.inr rfl) he2
        have := old.dom _ _ hi
        omega
      by_cases e1 : h.next = i
      · by_cases e2 : h.next = j
        · omega
        · rw [if_neg e2] at hj
          rw [← e1, hat, (hlow j (old.dom _ _ hj)).1] at he
          exact (inj2 j y hj he.symm).elim
      · rw [if_neg e1] at hi
        by_cases e2 : h.next = j
        · rw [← e2, hat, (hlow i (old.dom _ _ hi)).1] at he
          exact (inj2 i x hi he).elim
        · rw [if_neg e2] at hj
          rw [(hlow i (old.dom _ _ hi)).1, (hlow j (old.dom _ _ hj)).1] at he
          exact old.inj i j x y hi hj hw he
  · exact IV.under_ren (n := 1) (fun i _ => by simp) v hv

/-- What is answered at the empty heap, and one block. -/
noncomputable def pfO (P : Program) (T : Tr Ty) (oc : Nat → Nat → Option It) (fuel f : Nat) (args : List IV) (r : Nat) : Option (IV × Option (Bx × Bool) × List Prop) :=
  match pfR P T oc fuel f args ⟨.leaf, 0⟩ with
  | some (v, h', ob) => some (v, h'.get r, ob)
  | none => none

theorem Sp.pxO {P : Program} {T : Tr Ty} (hT : TabOK P T) (hm : P.follows .mixedOrders = true) {oc : Nat → Nat → Option It} {fuel f : Nat} {args : List IV} {r : Nat} {v v' : IV} {cs : List IV} {e : TypeId} {ob : List Prop}
    (hrun : pfO P T oc fuel f args r = some (v', some (.cells cs e, true), ob)) (hob : AllP ob) (hvr : v' = v.ren fun _ => r) (hcs : flatL cs = true) (hv : v.under 1) :
    SpEq P f args ⟨.leaf, 0⟩ (v.ren fun _ => 0) ((⟨.leaf, 0⟩ : H).new (.cells cs e)) := by
  unfold pfO at hrun
  split at hrun
  case h_2 => cases hrun
  rename_i v1 h1 ob1 hx
  simp only [Option.some.injEq, Prod.mk.injEq] at hrun
  obtain ⟨rfl, hg, rfl⟩ := hrun
  refine Sp.keepOut (h := ⟨.leaf, 0⟩) hcs hv (Sp.mono (Sp.px hT hm hx hob) ?_)
  rintro v2 h2 ⟨rfl, rfl⟩
  exact ⟨r, hvr, hg, Nat.zero_le _, fun i x hi => by simp [H.get, Tr.get] at hi⟩

theorem Sp.anyO {P : Program} {f : FuncId} {args : List IV} {v : IV} {cs : List IV} {e : TypeId} (hen : Go.Proofs.Enters P f) (ha : underLB 0 args = true) (hr : renL (fun i => i) args = args) (hcs : flatL cs = true) (hsame : (v.ren fun _ => 0).same v = true)
    (hs : SpEq P f args ⟨.leaf, 0⟩ (v.ren fun _ => 0) ((⟨.leaf, 0⟩ : H).new (.cells cs e))) (h : H) : SpEq P f args h (v.ren fun _ => h.next) (h.new (.cells cs e)) := by
  have hk : (⟨f, args, [], v, some (0, cs, e)⟩ : Fact).Holds P := by
    refine ⟨by simp [Fact.ok, hcs, hsame, ha], hen, (⟨.leaf, 0⟩ : H).new (.cells cs e), ?_, fun r cs' e' h' => ?_⟩
    · have : (v.ren fun _ => 0) = v := IV.same_eq _ _ hsame
      rw [this] at hs
      exact hs
    · cases h'
      rw [H.get_new]
      rfl
  have := Fact.big hk (H0 := h) (g := fun i => i) (fun i cs e hi => by simp at hi) (fun i j hi => by simp at hi) hr.symm
  exact this

/-- What is answered, and one block behind the call. -/
noncomputable def pfG (P : Program) (T : Tr Ty) (oc : Nat → Nat → Option It) (fuel f : Nat) (args : List IV) (h : H) (b : Nat) : Option (IV × Option (Bx × Bool) × List Prop) :=
  match pfR P T oc fuel f args h with
  | some (v, h', ob) => some (v, h'.get b, ob)
  | none => none

/-- A pure call at a heap of one block. -/
theorem Sp.pxG {P : Program} {T : Tr Ty} (hT : TabOK P T) (hm : P.follows .mixedOrders = true) {oc : Nat → Nat → Option It} {fuel f : Nat} {args : List IV} {h : H} {b : Nat} {x : Bx × Bool} {v : IV} {ob : List Prop} (hv : v.flat = true)
    (hone : ∀ i y, h.get i = some y → i = b ∧ y = x) (hrun : pfG P T oc fuel f args h b = some (v, some x, ob)) (hob : AllP ob) : SpEq P f args h v h := by
  unfold pfG at hrun
  split at hrun
  case h_2 => cases hrun
  rename_i v1 h1 ob1 hx
  simp only [Option.some.injEq, Prod.mk.injEq] at hrun
  obtain ⟨rfl, hg, rfl⟩ := hrun
  refine Sp.forget hv (Sp.mono (Sp.px hT hm hx hob) ?_)
  rintro v2 h2 ⟨rfl, rfl⟩
  refine ⟨rfl, fun i y hi => ?_⟩
  obtain ⟨rfl, rfl⟩ := hone i y hi
  exact hg

/-- A block that is not needed any more. -/
theorem Ev.kill {P : Program} {rd : Option Nat} {n : Nat} {c : Code} {Q : Out → Fr → H → Prop} {fr : Fr} {h : H} (b : Nat) (he : Ev P rd n c Q fr (h.kill b)) : Ev P rd n c Q fr h :=
  fun w0 E w a hr hrd ha => wpIn_mono (he w0 E w a (hr.kill b) hrd ha) fun _ _ _ ⟨o, fr', h', E', r1, r2, r3, r4, r5⟩ => ⟨o, fr', h', E', r1, r2, ⟨r3.ext, r3.le⟩, r4, r5⟩
theorem EvS.kill {P : Program} {rd : Option Nat} {n : Nat} {l : List Code} {Q : Out → Fr → H → Prop} {fr : Fr} {h : H} (b : Nat) (hl : l ≠ []) (he : EvS P rd n l Q fr (h.kill b)) : EvS P rd n l Q fr h := by
  cases l with
  | nil => exact absurd rfl hl
  | cons c cs => exact Ev.kill (c := c) b he
end Sx
