/- A region's text order, run once, is enough: the drawn orders agree with it where the checks hold. -/
import Derived.Test.YtjeakifmlmmpaaaGreatDoorSxDraw
namespace Sx
open Go Go.RowKit
set_option linter.unusedSimpArgs false

def flatTy (T : Tr Ty) (t : TypeId) : Bool :=
  match T.get t with
  | some ty => match ty.d with
    | .string | .array _ _ | .slice _ => true
    | _ => false
  | none => false

/-- Operations that do not look at the heap. -/
def freeOp (T : Tr Ty) : Op → Bool
  | .move _ | .assign _ | .pick .. | .build .. | .nilCheck _ | .binOp .. | .unOp .. | .makeInterface .. | .makeFunc .. | .fieldAddr .. | .field .. | .indexAddr .. | .index .. | .typeAssert .. | .extract .. => true
  | .convert _ d _ => plainTy T d
  | .call c => match c.callee, c.argTypes.toList with
    | .builtin .len, [t] => flatTy T t
    | .builtin .cap, _ | .builtin .min, _ | .builtin .max, _ => true
    | _, _ => false
  | _ => false

theorem mapH {α β : Type} {x : Option α} {h h1 : β} {v : α} (e : x.map (fun v => (v, h)) = some (v, h1)) : x = some v ∧ h1 = h := by
  cases x with
  | none => cases e
  | some a => simp at e; exact ⟨by rw [e.1], e.2.symm⟩

theorem len_free {T : Tr Ty} {t : TypeId} {x v : IV} {h : H} (ht : flatTy T t = true) (e : lenI T t x h = some v) (h' : H) : lenI T t x h' = some v := by
  unfold flatTy at ht
  unfold lenI at e ⊢
  split at ht
  · next ty hty =>
    rw [hty] at e
    rw [hty]
    simp only at e ⊢
    split at ht <;> rename_i hd <;> try cases ht
    all_goals
      rw [hd] at e ⊢
      cases x <;> simp_all
  · cases ht

theorem conv_free {T : Tr Ty} {s d : TypeId} {x v : IV} {h h1 : H} (ht : plainTy T d = true) (e : convI T s d x h = some (v, h1)) : h1 = h ∧ ∀ h', convI T s d x h' = some (v, h') := by
  unfold plainTy at ht
  unfold convI at e ⊢
  split at ht
  · next ty hty =>
    rw [hty] at e
    rw [hty]
    split at ht <;> rename_i hd <;> try cases ht
    cases hs : T.get s with
    | none => rw [hs] at e; cases e
    | some sty =>
      rw [hs] at e
      simp only at e ⊢
      rw [hd] at e ⊢
      cases x <;> simp_all
  · cases ht

theorem iop_free {T : Tr Ty} {tm : Tm} {h h1 : H} {op : Op} {v : IV} (hf : freeOp T op = true) (e : iop T tm h op = some (v, h1)) : h1 = h ∧ ∀ h', iop T tm h' op = some (v, h') := by
  cases op <;> simp only [freeOp] at hf <;> try cases hf
  case call c =>
    obtain ⟨callee, args, argTypes⟩ := c
    cases callee with
    | builtin b =>
      simp only [iop] at e ⊢
      cases ha : evos tm args.toList with
      | none => rw [ha] at e; cases e
      | some vs =>
        rw [ha] at e
        simp only at e ⊢
        unfold builtinI at e ⊢
        split at e <;> simp only at hf <;> try cases hf
        · rename_i t x hx
          rw [hx] at hf
          have := mapH e
          exact ⟨this.2, fun h' => by simp [hx, len_free hf this.1 h']⟩
        all_goals first
          | (have := mapH e; exact ⟨this.2, fun h' => by simp_all⟩)
          | (cases e)
    | _ => simp at hf
  case convert s d x =>
    simp only [iop] at e ⊢
    split at e
    · exact conv_free hf e
    · cases e
  all_goals
    simp only [iop] at e ⊢
    repeat' split at e
    all_goals first
      | (cases e; done)
      | (have := mapH e; exact ⟨this.2, fun h' => by simp_all⟩)
      | (cases e; exact ⟨rfl, fun h' => by simp_all⟩)

theorem iop_eff {T : Tr Ty} {tm : Tm} {h h1 : H} {op : Op} {v : IV} (hf : effOp T op = false) (e : iop T tm h op = some (v, h1)) : h1 = h := by
  cases op <;> simp only [effOp] at hf <;> try cases hf
  case call c =>
    obtain ⟨callee, args, argTypes⟩ := c
    cases callee with
    | builtin b =>
      simp only [iop] at e
      cases ha : evos tm args.toList with
      | none => rw [ha] at e; cases e
      | some vs =>
        rw [ha] at e
        simp only at e
        unfold builtinI at e
        split at e <;> simp only at hf <;> try cases hf
        all_goals first
          | (cases e; done)
          | exact (mapH e).2
    | _ => simp at hf
  case convert s d x =>
    simp only [iop] at e
    split at e
    · exact (conv_free (by simpa using hf) e).1
    · cases e
  all_goals
    simp only [iop] at e
    repeat' split at e
    all_goals first
      | (cases e; done)
      | exact (mapH e).2
      | (cases e; rfl)
      | (simp at e; done)

/-! ### The text's order -/
inductive TRun (P : Program) (T : Tr Ty) (ops : Array Oper) : List Oper → Fr → H → List (IV × H) → Fr → H → Prop
  | nil {fr h} : TRun P T ops [] fr h [] fr h
  | skip {o l fr h tr fr' h'} : wantedI ops fr.tm o = false → TRun P T ops l (fr.put o.dst undefI) h tr fr' h' → TRun P T ops (o :: l) fr h ((undefI, h) :: tr) fr' h'
  | op {o l fr h v h1 tr fr' h'} : wantedI ops fr.tm o = true → iop T fr.tm h o.op = some (v, h1) → TRun P T ops l (fr.put o.dst v) h1 tr fr' h' → TRun P T ops (o :: l) fr h ((v, h1) :: tr) fr' h'
  | call {o : Oper} {l fr h c fo fv vs v h1 tr fr' h'} : wantedI ops fr.tm o = true → o.op = .call c → c.callee = .value fo → evo fr.tm fo = some fv → evos fr.tm c.args.toList = some vs →
      Cl P fv vs h (fun v' h'' => v' = v ∧ h'' = h1) → TRun P T ops l (fr.put o.dst v) h1 tr fr' h' → TRun P T ops (o :: l) fr h ((v, h1) :: tr) fr' h'

def hAt (h : H) (tr : List (IV × H)) : Nat → H
  | 0 => h
  | j + 1 => ((tr[j]?).map (·.2)).getD h

def vAt (tr : List (IV × H)) (j : Nat) : IV := ((tr[j]?).map (·.1)).getD undefI

def StepF (P : Program) (T : Tr Ty) (ops : Array Oper) (o : Oper) (fr : Fr) (h : H) (v : IV) (h1 : H) : Prop :=
  (wantedI ops fr.tm o = false ∧ v = undefI ∧ h1 = h) ∨
  (wantedI ops fr.tm o = true ∧ iop T fr.tm h o.op = some (v, h1)) ∨
  (wantedI ops fr.tm o = true ∧ ∃ c fo fv vs, o.op = .call c ∧ c.callee = .value fo ∧ evo fr.tm fo = some fv ∧ evos fr.tm c.args.toList = some vs ∧ Cl P fv vs h fun v' h'' => v' = v ∧ h'' = h1)

/-- A run from operation i on, told by its trace. -/
theorem TRun.facts {P : Program} {T : Tr Ty} {ops : Array Oper} {vals : Nat → IV} {hh : Nat → H} {fr0 : Fr} {l : List Oper} {fr h tr fr' h'} (r : TRun P T ops l fr h tr fr' h') :
    ∀ i, (∀ j, l[j]? = ops[i + j]?) → i + l.length = ops.size → fr = frAt ops vals fr0 i → h = hh i → (∀ j x, tr[j]? = some x → vals (i + j) = x.1 ∧ hh (i + j + 1) = x.2) →
    (∀ j o, i ≤ j → ops[j]? = some o → StepF P T ops o (frAt ops vals fr0 j) (hh j) (vals j) (hh (j + 1))) ∧ fr' = frAt ops vals fr0 ops.size ∧ h' = hh ops.size := by
  have one : ∀ (o : Oper) (l : List Oper) (fr : Fr) (h h1 : H) (v : IV) (tr : List (IV × H)) (fr' : Fr) (h' : H) (i : Nat), StepF P T ops o fr h v h1 →
      (∀ i, (∀ j, l[j]? = ops[i + j]?) → i + l.length = ops.size → fr.put o.dst v = frAt ops vals fr0 i → h1 = hh i → (∀ j x, tr[j]? = some x → vals (i + j) = x.1 ∧ hh (i + j + 1) = x.2) →
        (∀ j o, i ≤ j → ops[j]? = some o → StepF P T ops o (frAt ops vals fr0 j) (hh j) (vals j) (hh (j + 1))) ∧ fr' = frAt ops vals fr0 ops.size ∧ h' = hh ops.size) →
      (∀ j, (o :: l)[j]? = ops[i + j]?) → i + (o :: l).length = ops.size → fr = frAt ops vals fr0 i → h = hh i → (∀ j x, ((v, h1) :: tr)[j]? = some x → vals (i + j) = x.1 ∧ hh (i + j + 1) = x.2) →
        (∀ j o, i ≤ j → ops[j]? = some o → StepF P T ops o (frAt ops vals fr0 j) (hh j) (vals j) (hh (j + 1))) ∧ fr' = frAt ops vals fr0 ops.size ∧ h' = hh ops.size := by
    intro o l fr h h1 v tr fr' h' i hs ih hl hn hf hh0 ht
    have ho : ops[i]? = some o := by simpa using (hl 0).symm
    have h0 := ht 0 (v, h1) rfl
    simp only [Nat.add_zero] at h0
    have hd : dstAt ops i = o.dst := by simp [dstAt, ho]
    have := ih (i + 1) (fun j => by have := hl (j + 1); rw [show i + 1 + j = i + (j + 1) by omega]; simpa using this) (by simp at hn; omega)
      (by simp only [frAt]; rw [hd, ← hf, h0.1]) h0.2.symm (fun j x hx => by have := ht (j + 1) x (by simpa using hx); rw [show i + 1 + j = i + (j + 1) by omega]; exact this)
    refine ⟨fun j o' hj ho' => ?_, this.2⟩
    by_cases e : j = i
    · subst e
      rw [ho] at ho'
      cases ho'
      rw [← hf, ← hh0, h0.1, h0.2]
      exact hs
    · exact this.1 j o' (by omega) ho'
  induction r with
  | nil =>
    intro i hl hn hf hh0 ht
    simp at hn
    subst hn
    exact ⟨fun j o hj ho => absurd (Array.getElem?_eq_some_iff.1 ho).1 (by omega), hf, hh0⟩
  | skip hw _ ih => intro i; exact one _ _ _ _ _ _ _ _ _ i (.inl ⟨hw, rfl, rfl⟩) ih
  | op hw ho _ ih => intro i; exact one _ _ _ _ _ _ _ _ _ i (.inr (.inl ⟨hw, ho⟩)) ih
  | call hw ho hc hfv hvs hcl _ ih => intro i; exact one _ _ _ _ _ _ _ _ _ i (.inr (.inr ⟨hw, _, _, _, _, ho, hc, hfv, hvs, hcl⟩)) ih

theorem TRun.length {P : Program} {T : Tr Ty} {ops : Array Oper} {l : List Oper} {fr h tr fr' h'} (r : TRun P T ops l fr h tr fr' h') : tr.length = l.length := by
  induction r <;> simp_all

def chkK (T : Tr Ty) (ops : Array Oper) (B : List Nat) : Bool :=
  (List.range ops.size).all fun j => match ops[j]? with
    | some o => effOp T o.op || freeOp T o.op || (List.range (rank T ops ops.size + 1)).all fun k => Nat.beq k (rank T ops j) || !winB T ops B j k
    | none => true

def drawOK (T : Tr Ty) (ops : Array Oper) (ntmps : Nat) : Bool :=
  let B := befL ops.toList []
  orderOK T ops B && edgesOK ops && dstOK ops ntmps && chkK T ops B

section
variable {P : Program} {T : Tr Ty} (hT : TabOK P T) {rd : Option Nat} {ntmps : Nat} {Q : Out → Fr → H → Prop} {fr : Fr} {h : H}

theorem Cl.mono {fv : IV} {vs : List IV} {R R' : IV → H → Prop} (hc : Cl P fv vs h R) (hq : ∀ v h', R v h' → R' v h') : Cl P fv vs h R' := by
  intro w0 E w hr hu hu'
  have := hc w0 E w hr hu hu'
  unfold UponV at this ⊢
  generalize (Sem.run P (do let d ← Deferred.ofValue (IV.den E fv) (denL E vs).toArray; invoke d.target d.args : Sem Next) w) = r at this ⊢
  split at this
  · exact this.mono fun e w' he => by
      cases e with
      | returned v' => obtain ⟨v, h', E', h1, h2, h3, h4, h5⟩ := he; exact ⟨v, h', E', h1, h2, h3, h4, hq _ _ h5⟩
      | panicked _ => exact he.elim
      | outgrown => exact he.elim
  · obtain ⟨v, h', E', h1, h2, h3, h4, h5⟩ := this
    exact ⟨v, h', E', h1, h2, h3, h4, hq _ _ h5⟩
  · exact this.mono fun e w' he => by
      cases e with
      | returned v' => obtain ⟨v, h', E', h1, h2, h3, h4, h5⟩ := he; exact ⟨v, h', E', h1, h2, h3, h4, hq _ _ h5⟩
      | panicked _ => exact he.elim
      | outgrown => exact he.elim
  · exact this.elim

include hT in
theorem EvOps.of_run {ops : Array Oper} {K : Fr → H → Prop} (hd : ∀ (j : Nat) (o : Oper), ops[j]? = some o → ∀ k, o.dst = some k → k < ntmps) {l : List Oper} {tr fr' h'} (r : TRun P T ops l fr h tr fr' h') (hk : K fr' h') :
    ∀ i, (∀ j, l[j]? = ops[i + j]?) → EvOps P rd ntmps ops (List.range' i l.length) K fr h := by
  induction r with
  | nil => intro i _; exact EvOps.nil hk
  | @skip o l _ _ _ _ _ hw _ ih =>
    intro i hl
    have ho : ops[i]? = some o := by simpa using (hl 0).symm
    exact EvOps.skip ho hw (hd i o ho) (ih hk (i + 1) fun j => by have := hl (j + 1); rw [show i + 1 + j = i + (j + 1) by omega]; simpa using this)
  | @op o l _ _ _ _ _ _ _ hw ho' _ ih =>
    intro i hl
    have ho : ops[i]? = some o := by simpa using (hl 0).symm
    exact EvOps.op hT ho hw (hd i o ho) ho' (ih hk (i + 1) fun j => by have := hl (j + 1); rw [show i + 1 + j = i + (j + 1) by omega]; simpa using this)
  | @call o l _ _ _ _ _ _ _ _ _ _ _ hw hop hc hfv hvs hcl _ ih =>
    intro i hl
    have ho : ops[i]? = some o := by simpa using (hl 0).symm
    refine EvOps.call ho hw (hd i o ho) hop hc hfv hvs (hcl.mono fun v' h'' hv => ?_)
    obtain ⟨rfl, rfl⟩ := hv
    exact ih hk (i + 1) fun j => by have := hl (j + 1); rw [show i + 1 + j = i + (j + 1) by omega]; simpa using this

def hsAt (T : Tr Ty) (ops : Array Oper) (h : H) (tr : List (IV × H)) (k : Nat) : H :=
  hAt h tr (((List.range (ops.size + 1)).find? fun j => Nat.beq (rank T ops j) k).getD 0)

/-- What must hold of operations whose place among the effects is open. -/
def DynOK (T : Tr Ty) (ops : Array Oper) (fr : Fr) (h : H) (tr : List (IV × H)) : Prop :=
  ∀ (j : Nat) (o : Oper) (k : Nat), ops[j]? = some o → wantedI ops (frAt ops (vAt tr) fr j).tm o = true → effOp T o.op = false → freeOp T o.op = false → k ≤ rank T ops ops.size → k ≠ rank T ops j →
    winB T ops (befL ops.toList []) j k = true → iop T (frAt ops (vAt tr) fr j).tm (hsAt T ops h tr k) o.op = some (vAt tr j, hsAt T ops h tr k)

def drawS (T : Tr Ty) (ops : Array Oper) (ntmps : Nat) : Bool :=
  let B := befL ops.toList []
  orderOK T ops B && edgesOK ops && dstOK ops ntmps

include hT in
theorem Ev.region_textD {id : Nat} {ops : Array Oper} {b : Bool} (hm : P.follows .mixedOrders = true) (hok : (if b then drawS T ops ntmps else dstOK ops ntmps) = true) {tr fr' h'} (r : TRun P T ops ops.toList fr h tr fr' h')
    (hdyn : b = true → DynOK T ops fr h tr) (hq : Q .normal fr' h') :
    Ev P rd ntmps (.region id ops b) Q fr h := by
  cases b with
  | false =>
    simp only [Bool.false_eq_true, if_false] at hok
    have := EvOps.of_run hT (rd := rd) (K := Q .normal) (fun j o ho k hk => by
      have := Array.all_eq_true_iff_forall_mem.1 hok o (Array.mem_of_getElem? ho)
      rw [hk] at this
      simpa [Nat.blt_eq] using this) r hq 0 (fun j => by simp)
    rw [Array.length_toList, ← List.range_eq_range'] at this
    exact Ev.region this
  | true =>
    simp only [if_true, drawS, Bool.and_eq_true] at hok
    obtain ⟨⟨h1, h2⟩, h3⟩ := hok
    have h4 := hdyn rfl
    have hlen := r.length
    rw [Array.length_toList] at hlen
    have F := TRun.facts (vals := vAt tr) (hh := hAt h tr) (fr0 := fr) r 0 (fun j => by simp) (by simp) rfl rfl (fun j x hx => by simp [vAt, hAt, hx])
    obtain ⟨F1, F2, F3⟩ := F
    have hsame : ∀ j o, ops[j]? = some o → effOp T o.op = false → hAt h tr (j + 1) = hAt h tr j := by
      intro j o ho he
      rcases F1 j o (Nat.zero_le _) ho with ⟨_, _, hh⟩ | ⟨_, hh⟩ | ⟨_, c, fo, fv, vs, hop, hc, _⟩
      · exact hh
      · exact iop_eff he hh
      · obtain ⟨callee, args, argTypes⟩ := c
        simp only at hc
        subst hc
        rw [hop] at he
        simp [effOp] at he
    have hrank : ∀ j i, i ≤ j → j ≤ ops.size → rank T ops i = rank T ops j → hAt h tr i = hAt h tr j := by
      intro j
      induction j with
      | zero => intro i hi _ _; have : i = 0 := by omega
                rw [this]
      | succ j ih =>
        intro i hi hj hr
        by_cases e : i = j + 1
        · rw [e]
        · have m1 := rank_le T ops (show i ≤ j by omega)
          have m2 : rank T ops j ≤ rank T ops (j + 1) := rank_le T ops (Nat.le_succ j)
          have hrj : rank T ops j = rank T ops (j + 1) := by omega
          rw [ih i (by omega) (by omega) (by omega)]
          obtain ⟨o, ho⟩ : ∃ o, ops[j]? = some o := ⟨_, Array.getElem?_eq_getElem (show j < ops.size by omega)⟩
          refine (hsame j o ho ?_).symm
          cases he : effOp T o.op with
          | false => rfl
          | true =>
            have : effB T ops j = true := by simp [effB, ho, he]
            simp only [rank, this, if_true] at hrj
            omega
    -- the heap of each rank
    let hs : Nat → H := hsAt T ops h tr
    have hhs : ∀ j, j ≤ ops.size → hs (rank T ops j) = hAt h tr j := by
      intro j hj
      simp only [hs, hsAt]
      cases hf : (List.range (ops.size + 1)).find? fun i => Nat.beq (rank T ops i) (rank T ops j) with
      | none =>
        have := List.find?_eq_none.1 hf j (List.mem_range.2 (by omega))
        simp at this
      | some i =>
        have h5 := List.find?_some hf
        have h6 := List.mem_range.1 (List.mem_of_find?_eq_some hf)
        have h7 : rank T ops i = rank T ops j := Nat.eq_of_beq_eq_true h5
        simp only [Option.getD_some]
        rcases Nat.le_total i j with h8 | h8
        · exact hrank j i h8 hj h7
        · exact (hrank i j h8 (by omega) h7.symm).symm
    refine Ev.region_draw hT hm (vAt tr) hs ?_ h1 h2 h3 ?_ ?_
    · have := hhs 0 (Nat.zero_le _); simpa [rank, hAt] using this
    · intro j o ho
      have hjlt := (Array.getElem?_eq_some_iff.1 ho).1
      have e0 := hhs j (by omega)
      have e1 : effOp T o.op = true → hs (rank T ops j + 1) = hAt h tr (j + 1) := fun he => by
        have := hhs (j + 1) hjlt
        have hb : effB T ops j = true := by simp [effB, ho, he]
        simpa [rank, hb] using this
      unfold OpFact
      rcases F1 j o (Nat.zero_le _) ho with ⟨hw, hv, hh⟩ | ⟨hw, hh⟩ | ⟨hw, c, fo, fv, vs, hop, hc, hfv, hvs, hcl⟩
      · rw [if_pos hw]
        exact ⟨hv, fun he => by rw [e1 he, e0, hh]⟩
      · rw [if_neg (by rw [hw]; simp)]
        by_cases he : effOp T o.op = true
        · rw [if_pos he, e0, e1 he]
          exact .inl hh
        · rw [if_neg he]
          intro k hk hwin
          by_cases hfree : freeOp T o.op = true
          · exact (iop_free hfree hh).2 _
          · by_cases hk' : k = rank T ops j
            · rw [hk', e0]
              have := hsame j o ho (by simpa using he)
              rw [this] at hh
              exact hh
            · exact h4 j o k ho hw (by simpa using he) (by simpa using hfree) hk hk' hwin
      · rw [if_neg (by rw [hw]; simp)]
        have he : effOp T o.op = true := by
          obtain ⟨callee, args, argTypes⟩ := c
          simp only at hc
          subst hc
          rw [hop]; rfl
        rw [if_pos he, e0, e1 he]
        exact .inr ⟨c, fo, fv, vs, hop, hc, hfv, hvs, hcl⟩
    · rw [← F2, hhs _ (Nat.le_refl _), ← F3]; exact hq

theorem DynOK.of_chk {ops : Array Oper} {tr : List (IV × H)} (hc : chkK T ops (befL ops.toList []) = true) : DynOK T ops fr h tr := by
  intro j o k ho _ he hf hk hk' hwin
  exfalso
  have h1 := List.all_eq_true.1 hc j (List.mem_range.2 (Array.getElem?_eq_some_iff.1 ho).1)
  simp only [ho] at h1
  simp only [Bool.or_eq_true, he, hf, false_or, Bool.false_eq_true] at h1
  have := List.all_eq_true.1 h1 k (List.mem_range.2 (by omega))
  simp only [hwin, Bool.not_true, Bool.or_false] at this
  exact hk' (Nat.eq_of_beq_eq_true this)

include hT in
theorem Ev.region_text {id : Nat} {ops : Array Oper} {b : Bool} (hm : P.follows .mixedOrders = true) (hok : (if b then drawOK T ops ntmps else dstOK ops ntmps) = true) {tr fr' h'} (r : TRun P T ops ops.toList fr h tr fr' h') (hq : Q .normal fr' h') :
    Ev P rd ntmps (.region id ops b) Q fr h := by
  cases b with
  | false => exact Ev.region_textD hT hm hok r (fun e => by cases e) hq
  | true =>
    simp only [if_true, drawOK, Bool.and_eq_true] at hok
    exact Ev.region_textD hT hm (by simp only [if_true, drawS, Bool.and_eq_true]; exact hok.1) r (fun _ => DynOK.of_chk hok.2) hq
end
end Sx
