/- What the machine's answer tells of the program. -/
import Derived.Test.YtjeakifmlmmpaaaGreatDoorSxMach
namespace Sx
open Go Go.RowKit
set_option linter.unusedSimpArgs false

/-- A call answers so, in every world that the heap stands for. -/
def ClEq (P : Program) (fv : IV) (args : List IV) (h : H) (v : IV) (h' : H) : Prop := Cl P fv args h fun v2 h2 => v2 = v ∧ h2 = h'
def SpEq (P : Program) (f : FuncId) (args : List IV) (h : H) (v : IV) (h' : H) : Prop := Sp P f args h fun v2 h2 => v2 = v ∧ h2 = h'
def EvEq (P : Program) (rd : Option Nat) (n : Nat) (c : Code) (fr : Fr) (h : H) (o : Out) (fr' : Fr) (h' : H) : Prop := Ev P rd n c (fun o2 f2 h2 => o2 = o ∧ f2 = fr' ∧ h2 = h') fr h

structure SoundR (P : Program) (r : Rn) : Prop where
  code : ∀ rd k c fr h o fr' h', r.code rd k c fr h = some (o, fr', h') → EvEq P rd k c fr h o fr' h'
  loop : ∀ rd k c fr h o fr' h', r.code rd k (.loop c) fr h = some (o, fr', h') → EvLoop P rd k c (fun o2 f2 h2 => o2 = o ∧ f2 = fr' ∧ h2 = h') fr h
  cl : ∀ fv args h v h', r.cl fv args h = some (v, h') → ClEq P fv args h v h'

def SoundS (P : Program) (sc : Short) : Prop := ∀ f args h v h', sc f args h = some (v, h') → SpEq P f args h v h'

section
variable {P : Program} {T : Tr Ty} (hT : TabOK P T) {r : Rn} (hr : SoundR P r) (hm : P.follows .mixedOrders = true)

theorem kone_eq {β : Type} (ops : Array Oper) (o : Oper) (fr : Fr) (h : H) (ih : IV → Fr → H → Option β) :
    kone r T ops o fr h ih = match wantedI ops fr.tm o with
      | true => opS o.op r T fr.tm h fun v h1 => ih v (fr.put o.dst v) h1
      | false => ih undefI (fr.put o.dst undefI) h := by
  obtain ⟨tm, ms⟩ := fr
  have hx : ∀ tm ms h (ih : IV → Fr → H → Option β), kexec r T o tm ms h ih = opS o.op r T tm h fun v h1 => ih v (Fr.put ⟨tm, ms⟩ o.dst v) h1 := by
    intro tm ms h ih
    simp only [kexec, kop_eq, kput_eq]
  unfold kone
  simp only [kwant_eq]
  cases o.guard with
  | none => exact hx ..
  | some g =>
    simp only
    cases kwant ops g tm with
    | true => exact hx ..
    | false => exact kput_eq ..

theorem withO_some {α β : Type} {o : Option α} {k : α → Option β} {x : β} (e : withO o k = some x) : ∃ a, o = some a ∧ k a = some x := by
  cases o with
  | none => cases e
  | some a => exact ⟨a, rfl, e⟩

include hr in
theorem kops_sound {ops : Array Oper} : ∀ {l : List Oper} {fr : Fr} {h : H} {fr' : Fr} {h' : H}, kops r T ops l fr h = some (fr', h') → ∃ tr, TRun P T ops l fr h tr fr' h' := by
  intro l
  induction l with
  | nil => intro fr h fr' h' e; cases e; exact ⟨_, .nil⟩
  | cons o l ih =>
    intro fr h fr' h' e
    have e1 : kone r T ops o fr h (fun _ fr h => kops r T ops l fr h) = some (fr', h') := e
    rw [kone_eq] at e1
    cases hw : wantedI ops fr.tm o with
    | false =>
      rw [hw] at e1
      obtain ⟨tr, ht⟩ := ih e1
      exact ⟨_, .skip hw ht⟩
    | true =>
      rw [hw] at e1
      simp only [opS] at e1
      split at e1
      · next v h1 hi =>
        obtain ⟨tr, ht⟩ := ih e1
        exact ⟨_, .op hw hi ht⟩
      · next hi =>
        split at e1
        · next c hop =>
          split at e1
          · next fo hc =>
            obtain ⟨fv, hfv, e1⟩ := withO_some e1
            obtain ⟨vs, hvs, e1⟩ := withO_some e1
            obtain ⟨⟨v, h1⟩, hcl, e1⟩ := withO_some e1
            obtain ⟨tr, ht⟩ := ih e1
            exact ⟨_, .call hw hop hc hfv hvs (hr.cl _ _ _ _ _ hcl) ht⟩
          · cases e1
        · cases e1

include hr in
theorem kopsT_sound {ops : Array Oper} : ∀ {l : List Oper} {fr : Fr} {h : H} {tr : List (IV × H)} {fr' : Fr} {h' : H}, kopsT r T ops l fr h = some (tr, fr', h') → TRun P T ops l fr h tr fr' h' := by
  intro l
  induction l with
  | nil => intro fr h tr fr' h' e; cases e; exact .nil
  | cons o l ih =>
    intro fr h tr fr' h' e
    have e1 : kone r T ops o fr h (fun v fr1 h1 => match kopsT r T ops l fr1 h1 with
      | some (tr, x) => some ((v, h1) :: tr, x)
      | none => none) = some (tr, fr', h') := e
    rw [kone_eq] at e1
    have fin : ∀ {v : IV} {fr1 : Fr} {h1 : H}, (match kopsT r T ops l fr1 h1 with
      | some (tr, x) => some ((v, h1) :: tr, x)
      | none => none) = some (tr, fr', h') → ∃ tr1, tr = (v, h1) :: tr1 ∧ TRun P T ops l fr1 h1 tr1 fr' h' := by
      intro v fr1 h1 e2
      split at e2
      · next tr1 x hx =>
        simp only [Option.some.injEq, Prod.mk.injEq] at e2
        obtain ⟨rfl, rfl⟩ := e2
        exact ⟨tr1, rfl, ih hx⟩
      · cases e2
    cases hw : wantedI ops fr.tm o with
    | false =>
      rw [hw] at e1
      obtain ⟨tr1, rfl, ht⟩ := fin e1
      exact .skip hw ht
    | true =>
      rw [hw] at e1
      simp only [opS] at e1
      split at e1
      · next v h1 hi =>
        obtain ⟨tr1, rfl, ht⟩ := fin e1
        exact .op hw hi ht
      · next hi =>
        split at e1
        · next c hop =>
          split at e1
          · next fo hc =>
            obtain ⟨fv, hfv, e1⟩ := withO_some e1
            obtain ⟨vs, hvs, e1⟩ := withO_some e1
            obtain ⟨⟨v, h1⟩, hcl, e1⟩ := withO_some e1
            obtain ⟨tr1, rfl, ht⟩ := fin e1
            exact .call hw hop hc hfv hvs (hr.cl _ _ _ _ _ hcl) ht
          · cases e1
        · cases e1

theorem dynB_ok {ops : Array Oper} {fr : Fr} {h : H} {tr : List (IV × H)} (hd : dynB T ops fr h tr = true) : DynOK T ops fr h tr := by
  intro j o k ho hw he hf hk hk' hwin
  have h1 := List.all_eq_true.1 hd j (List.mem_range.2 (Array.getElem?_eq_some_iff.1 ho).1)
  simp only [ho] at h1
  simp only [Bool.or_eq_true, hw, he, hf, false_or, Bool.false_eq_true, Bool.not_true] at h1
  have h2 := List.all_eq_true.1 h1 k (List.mem_range.2 (by omega))
  have hb : Nat.beq k (rank T ops j) = false := by rw [beqE]; exact decide_eq_false hk'
  simp only [hwin, hb, Bool.not_true, Bool.false_or] at h2
  split at h2
  · next v h' hi =>
    rw [← IV.same_eq _ _ h2]
    rw [hi, iop_eff he hi]
  · cases h2

include hr in
theorem kLoop_sound {c : Code} {rd : Option Nat} {n : Nat} {fr : Fr} {h : H} {o : Out} {fr' : Fr} {h' : H} (e : kLoop c r T rd n fr h = some (o, fr', h')) :
    EvLoop P rd n c (fun o2 f2 h2 => o2 = o ∧ f2 = fr' ∧ h2 = h') fr h := by
  unfold kLoop at e
  split at e
  case h_1 => cases e
  rename_i o1 fr1 h1 hx
  have h1' := hr.code _ _ _ _ _ _ _ _ hx
  refine EvLoop.round (Ev.mono h1' ?_)
  rintro o2 f2 h2 ⟨rfl, rfl, rfl⟩
  cases o2 with
  | normal => exact hr.loop _ _ _ _ _ _ _ _ e
  | _ => cases e; exact ⟨rfl, rfl, rfl⟩

theorem enters {f : Nat} {fn : Func} {c : Code} (hf : P.funcs[f]? = some fn) (hn : okName fn = false) (hb : fn.body = some c) : Go.Proofs.Enters P f := Go.Proofs.enters_of hf hn hb

include hT hr hm in
theorem kcode_sound (hen : ∀ f h v h' a b l, r.cl (IV.func (.func f) a b) [.func (.yield l) [] []] h = some (v, h') → Go.Proofs.Enters P f) {c : Code} {rd : Option Nat} {n : Nat} {fr : Fr} {h : H} {o : Out} {fr' : Fr} {h' : H} (e : kcode c r T rd n fr h = some (o, fr', h')) :
    EvEq P rd n c fr h o fr' h' := by
  cases c with
  | skip => cases e; exact Ev.skip ⟨rfl, rfl, rfl⟩
  | label l => cases e; exact Ev.label ⟨rfl, rfl, rfl⟩
  | exit id => cases e; exact Ev.exit ⟨rfl, rfl, rfl⟩
  | goto l => cases e; exact Ev.goto ⟨rfl, rfl, rfl⟩
  | ret => cases e; exact Ev.ret ⟨rfl, rfl, rfl⟩
  | seq x y =>
    have e1 : kSeq x y r T rd n fr h = some (o, fr', h') := e
    unfold kSeq at e1
    split at e1
    case h_1 => cases e1
    rename_i o1 fr1 h1 hx
    refine Ev.seq (Ev.mono (hr.code _ _ _ _ _ _ _ _ hx) ?_)
    rintro o2 f2 h2 ⟨rfl, rfl, rfl⟩
    cases o2 with
    | normal => exact hr.code _ _ _ _ _ _ _ _ e1
    | _ => cases e1; exact ⟨rfl, rfl, rfl⟩
  | cond c x y =>
    have e1 : kCond c x y r T rd n fr h = some (o, fr', h') := e
    unfold kCond at e1
    rw [kev_eq] at e1
    obtain ⟨v, hv, e1⟩ := withO_some e1
    cases v with
    | bool b => cases b <;> exact Ev.cond hv (hr.code _ _ _ _ _ _ _ _ e1)
    | _ => cases e1
  | block id x =>
    have e1 : kBlock id x r T rd n fr h = some (o, fr', h') := e
    unfold kBlock at e1
    split at e1
    case h_1 => cases e1
    rename_i o1 fr1 h1 hx
    refine Ev.block (Ev.mono (hr.code _ _ _ _ _ _ _ _ hx) ?_)
    rintro o2 f2 h2 ⟨rfl, rfl, rfl⟩
    cases o2 with
    | exit id' =>
      simp only [Out.block]
      simp only at e1
      cases hb : Nat.beq id' id with
      | true => rw [hb] at e1; cases e1; rw [if_pos (Nat.eq_of_beq_eq_true hb)]; exact ⟨rfl, rfl, rfl⟩
      | false =>
        rw [hb] at e1
        cases e1
        rw [if_neg]
        · exact ⟨rfl, rfl, rfl⟩
        · intro e2; rw [e2] at hb; simp at hb
    | _ => cases e1; exact ⟨rfl, rfl, rfl⟩
  | loop x => exact Ev.loop (kLoop_sound (T := T) hr e)
  | region id ops b =>
    have e1 : kRegion ops b r T rd n fr h = some (o, fr', h') := e
    unfold kRegion at e1
    cases hb : okR T ops b n with
    | false => rw [hb] at e1; cases e1
    | true =>
      rw [hb] at e1
      simp only at e1
      have hok : (if b then drawS T ops n else dstOK ops n) = true := by cases b <;> simpa [okR] using hb
      cases hc : calmR T ops b with
      | true =>
        rw [hc] at e1
        simp only at e1
        split at e1
        case h_1 => cases e1
        rename_i fr1 h1 hx
        cases e1
        obtain ⟨tr, ht⟩ := kops_sound hr hx
        refine Ev.region_textD hT hm hok ht (fun hb2 => ?_) ⟨rfl, rfl, rfl⟩
        subst hb2
        exact DynOK.of_chk hc
      | false =>
        rw [hc] at e1
        simp only at e1
        split at e1
        case h_1 => cases e1
        rename_i tr x hx
        obtain ⟨fr1, h1⟩ := x
        cases hd : dynB T ops fr h tr with
        | false => rw [hd] at e1; cases e1
        | true =>
          rw [hd] at e1
          cases e1
          exact Ev.region_textD hT hm hok (kopsT_sound hr hx) (fun _ => dynB_ok hd) ⟨rfl, rfl, rfl⟩
  | rangeFunc fo params assign body =>
    have e1 : kRange fo params assign body r T rd n fr h = some (o, fr', h') := e
    unfold kRange at e1
    cases rd with
    | some l => cases e1
    | none =>
      obtain ⟨tm, ms⟩ := fr
      simp only [kev_eq] at e1
      obtain ⟨fv, hfv, e1⟩ := withO_some e1
      cases fv with
      | func g first cap =>
        cases g with
        | func f =>
          obtain ⟨t, nx⟩ := h
          simp only [ksetT_eq, fNat_eq] at e1
          split at e1
          case h_2 => cases e1
          rename_i x hx
          obtain ⟨v3, h3⟩ := x
          refine Ev.rangeFunc_none hfv rfl (hen _ _ _ _ _ _ _ hx) (Cl.mono (hr.cl _ _ _ _ _ hx) ?_)
          rintro v2 h2 ⟨rfl, rfl⟩
          obtain ⟨t3, nx3⟩ := h2
          unfold afterI at e1
          simp only [kget_eq, ksetT_eq] at e1
          split at e1
          case h_2 => cases e1
          rename_i st pd n2 tm2 params2 assign2 body2 d2 hg
          refine ⟨st, pd, n2, tm2, params2, assign2, body2, d2, hg, ?_, ?_⟩
          · intro hs
            subst hs
            cases e1
          · have e2 : (match pd with
                | none => some (Out.normal, (⟨tm, .col nx :: ms⟩ : Fr), (⟨t3.set (Nat.succ nx) none, nx3⟩ : H))
                | some c => r.code none n c ⟨tm, .col nx :: ms⟩ ⟨t3.set (Nat.succ nx) none, nx3⟩) = some (o, fr', h') := by
              cases st <;> first | exact e1 | (cases pd <;> exact e1) | (simp at e1)
            cases pd with
            | none => cases e2; exact ⟨rfl, rfl, rfl⟩
            | some c => exact hr.code _ _ _ _ _ _ _ _ e2
        | _ => cases e1
      | _ => cases e1
  | _ => cases e

theorem yieldE_spec {l : Nat} {o : Out} {h2 : H} {v : IV} {h' : H} (e : yieldE l o h2 = some (v, h')) : RoundQ l (fun v2 h3 => v2 = v ∧ h3 = h') o h2 := by
  obtain ⟨t, nx⟩ := h2
  unfold yieldE at e
  simp only [kget_eq, ksetT_eq] at e
  split at e
  case h_2 => cases e
  rename_i st pd n2 tm2 params2 assign2 body2 d2 hg
  refine ⟨st, pd, n2, tm2, params2, assign2, body2, d2, hg, ?_⟩
  cases o <;> cases e <;> exact ⟨rfl, rfl⟩

include hr in
theorem yieldI_sound {l : Nat} {vs : List IV} {h : H} {v : IV} {h' : H} (e : yieldI r l vs h = some (v, h')) : ClEq P (.func (.yield l) [] []) vs h v h' := by
  unfold yieldI at e
  simp only [kget_eq, kparams_eq] at e
  split at e
  case h_2 => cases e
  rename_i st pd n tm params assign body d hg
  cases hb : (Nat.beq vs.length params.length && params.all (fun p => Nat.blt p n)) with
  | false => rw [hb] at e; cases e
  | true =>
    rw [hb] at e
    simp only [Bool.and_eq_true] at hb
    simp only at e
    split at e
    case h_2 => cases e
    rename_i fr1 h1 hx
    refine Cl.yield (hg : h.get l = _) (Nat.eq_of_beq_eq_true hb.1) (fun p hp => by
      have := List.all_eq_true.1 hb.2 p hp
      simpa [Nat.blt_eq] using this) (Ev.mono (hr.code _ _ _ _ _ _ _ _ hx) ?_)
    rintro o2 f2 h2 ⟨rfl, rfl, rfl⟩
    unfold yieldB at e
    obtain ⟨t, nx⟩ := h2
    simp only [kget_eq, ksetT_eq] at e
    split at e
    case h_2 => cases e
    rename_i pd1 n1 tm1 params1 assign1 body1 d1 hg1
    split at e
    case h_2 => cases e
    rename_i o3 fr3 h3 hy
    refine ⟨rfl, pd1, n1, tm1, params1, assign1, body1, d1, hg1, Ev.mono (hr.code _ _ _ _ _ _ _ _ hy) ?_⟩
    rintro o2 f2 h2 ⟨rfl, rfl, rfl⟩
    exact yieldE_spec e

theorem kret_spec {fn : Func} {fr' : Fr} {h' : H} {v : IV} {h1 : H} {o : Out} (ho : o = .normal ∨ o = .ret) (e : kret T fn fr' h' = some (v, h1)) : BodyQ T fn.results.toList (fun v2 h2 => v2 = v ∧ h2 = h1) o fr' h' := by
  obtain ⟨tm, ms⟩ := fr'
  obtain ⟨t, nx⟩ := h'
  unfold kret at e
  simp only [kmarks_eq ms t nx] at e
  obtain ⟨h'', hm, e⟩ := withO_some e
  have hnx : (⟨h''.t, nx⟩ : H) = h'' := by
    have := takeMarks_next hm
    cases h''
    simp at this
    subst this
    rfl
  rw [hnx] at e
  split at e
  case h_2 => cases e
  rename_i vs hvs
  rw [fIV_eq] at e
  cases e
  exact ⟨ho, h1, vs, hm, hvs, rfl, rfl⟩

include hT hr in
theorem kfun_sound {f : Nat} {fn : Func} (hf : P.funcs[f]? = some fn) {args : List IV} {h : H} {v : IV} {h' : H} (e : kfun T r fn args h = some (v, h')) :
    SpEq P f args h v h' ∧ Go.Proofs.Enters P f := by
  unfold kfun at e
  cases hn : okName fn with
  | true => rw [hn] at e; cases e
  | false =>
    rw [hn] at e
    simp only at e
    split at e
    case h_2 => cases e
    rename_i c hb
    cases hl : Nat.ble args.length fn.ntmps with
    | false => rw [hl] at e; cases e
    | true =>
      rw [hl] at e
      simp only [kmk_eq] at e
      split at e
      case h_2 => cases e
      rename_i o fr1 h1 hx
      refine ⟨Sp.of_ev hT hf hb (Nat.le_of_ble_eq_true hl) (Ev.mono (hr.code _ _ _ _ _ _ _ _ hx) ?_), enters hf hn hb⟩
      rintro o2 f2 h2 ⟨rfl, rfl, rfl⟩
      cases o2 with
      | normal => exact kret_spec (.inl rfl) e
      | ret => exact kret_spec (.inr rfl) e
      | _ => cases e

/-- Short answers are of functions with bodies. -/
def BodyS (P : Program) (sc : Short) : Prop := ∀ f args h x, sc f args h = some x → Go.Proofs.Enters P f

theorem kext_eq {fn : Func} {args : List IV} {h : H} {v : IV} {h' : H} (e : kext fn args h = some (v, h')) : kextF fn args h = some (v, h') ∧ noFn args = true := by
  unfold kext at e
  split at e
  case h_2 => cases e
  rename_i hn
  split at e
  case h_2 => cases e
  rename_i v1 h1 hx
  obtain ⟨t, nx⟩ := h1
  simp only [fIV_eq, fNat_eq] at e
  cases e
  exact ⟨hx, hn⟩

theorem Cl.of_ext {f : FuncId} {fn : Func} (hf : P.funcs[f]? = some fn) {first cap args : List IV} {h : H} {v : IV} {h' : H} (e : kextF fn (first ++ args ++ cap) h = some (v, h')) : ClEq P (.func (.func f) first cap) args h v h' := by
  intro w0 E w hr hfu hu
  obtain ⟨w', E', h1, h2, h3, h4⟩ := kext_run hr hf e
  have hrun : ((do let d ← Deferred.ofValue (IV.den E (.func (.func f) first cap)) (denL E args).toArray; invoke d.target d.args : Sem Next).run P w) = .ok (.value (v.den E')) w' := by
    simp only [IV.den, IFn.den, Deferred.ofValue, Sem.run_bind, Sem.run_pure, Result.andThen_ok, invoke]
    rw [← h1]
    congr 2
    apply Array.ext'
    simp [denL_append]
  rw [hrun]
  exact ⟨v, h', E', rfl, h2, h3, h4, rfl, rfl⟩

include hT hr in
theorem kcl_sound {sc : Short} (hs : SoundS P sc) (hbs : BodyS P sc) {fv : IV} {args : List IV} {h : H} {v : IV} {h' : H} (e : kcl P T sc r fv args h = some (v, h')) :
    ClEq P fv args h v h' ∧ ∀ f a b l, fv = .func (.func f) a b → args = [.func (.yield l) [] []] → Go.Proofs.Enters P f := by
  cases fv with
  | func g first cap =>
    cases g with
    | func f =>
      have e1 : kfn P T sc r f (first ++ args ++ cap) h = some (v, h') := e
      unfold kfn at e1
      have key : (SpEq P f (first ++ args ++ cap) h v h' ∧ Go.Proofs.Enters P f) ∨ ∃ fn, P.funcs[f]? = some fn ∧ kextF fn (first ++ args ++ cap) h = some (v, h') ∧ noFn (first ++ args ++ cap) = true := by
        split at e1
        · next x hx =>
          cases e1
          exact .inl ⟨hs _ _ _ _ _ hx, hbs _ _ _ _ hx⟩
        · next hx =>
          rw [knth_eq, Array.getElem?_toList] at e1
          split at e1
          · next fn hf =>
            split at e1
            · exact .inl (kfun_sound hT hr hf e1)
            · obtain ⟨k1, k2⟩ := kext_eq e1
              exact .inr ⟨fn, hf, k1, k2⟩
          · cases e1
      rcases key with key | ⟨fn, hf, k1, k2⟩
      · exact ⟨Cl.of_sp key.2 key.1, fun f' a b l e2 _ => by cases e2; exact key.2⟩
      · refine ⟨Cl.of_ext hf k1, fun f' a b l e2 e3 => ?_⟩
        exfalso
        rw [e3] at k2
        have := List.all_eq_true.1 k2 (.func (.yield l) [] []) (by simp)
        simp at this
    | yield l =>
      cases first with
      | cons a b => cases e
      | nil =>
        cases cap with
        | cons a b => cases e
        | nil => exact ⟨yieldI_sound hr e, fun f a b l e2 => by cases e2⟩
    | method s => cases e
  | _ => cases e
end

theorem kmach_sound {P : Program} {T : Tr Ty} (hT : TabOK P T) (hm : P.follows .mixedOrders = true) {sc : Short} (hs : SoundS P sc) (hbs : BodyS P sc) :
    ∀ n, SoundR P (kmach P T sc n) ∧ ∀ f h v h' a b l, (kmach P T sc n).cl (IV.func (.func f) a b) [.func (.yield l) [] []] h = some (v, h') → Go.Proofs.Enters P f := by
  intro n
  induction n with
  | zero => exact ⟨⟨fun _ _ _ _ _ _ _ _ e => (nomatch e), fun _ _ _ _ _ _ _ _ e => (nomatch e), fun _ _ _ _ _ e => (nomatch e)⟩, fun _ _ _ _ _ _ _ e => (nomatch e)⟩
  | succ n ih =>
    refine ⟨⟨fun rd k c fr h o fr' h' e => kcode_sound hT ih.1 hm ih.2 e, fun rd k c fr h o fr' h' e => kLoop_sound (T := T) ih.1 e, fun fv args h v h' e => (kcl_sound hT ih.1 hs hbs e).1⟩, ?_⟩
    intro f h v h' a b l e
    have e1 : kcl P T sc (kmach P T sc n) (IV.func (.func f) a b) [.func (.yield l) [] []] h = some (v, h') := e
    exact (kcl_sound hT ih.1 hs hbs e1).2 f a b l rfl rfl

theorem run_sound {P : Program} {T : Tr Ty} (hT : TabOK P T) (hm : P.follows .mixedOrders = true) {sc : Short} (hs : SoundS P sc) (hbs : BodyS P sc) {n f : Nat} {fn : Func} (hf : P.funcs[f]? = some fn)
    {args : List IV} {h : H} {v : IV} {h' : H} (e : kfun T (kmach P T sc n) fn args h = some (v, h')) : SpEq P f args h v h' :=
  (kfun_sound hT (kmach_sound hT hm hs hbs n).1 hf e).1
end Sx
