/- Running with open values: what is looked at is laid down as conditions, and answers are named ahead. -/
import Derived.Test.YtjeakifmlmmpaaaGreatDoorSxDrawP
namespace Sx
open Go Go.RowKit
set_option linter.unusedSimpArgs false

/-- What is named ahead for one operation. -/
inductive It
  | w (v : IV)
  | o (v : IV)
  | s (cs : List IV)
  | c (v : IV) (h : H)
  | g (v : IV) (h : H)
  | p (v : IV)
  | l (v : IV) (x : Bx × Bool)
  | q (v : IV) (b : Nat)
  | t (cs : List IV) (e : TypeId) (cs' : List IV)

def AllP : List Prop → Prop
  | [] => True
  | p :: ps => p ∧ AllP ps

theorem AllP.append : ∀ {a b : List Prop}, AllP (a ++ b) → AllP a ∧ AllP b
  | [], _, h => ⟨trivial, h⟩
  | _ :: _, _, h => ⟨⟨h.1, (AllP.append h.2).1⟩, (AllP.append h.2).2⟩

def ldC (agg : Bool) (sz : Nat) (cs : List IV) (o : Nat) : Option IV := bif agg then (bif Nat.ble (o + sz) cs.length then some (.agg ((cs.drop o).take sz)) else none) else cs[o]?
def roC (agg : Bool) (sz off : Nat) (cs : List IV) (o : Nat) : Option IV := bif agg then (bif Nat.ble off o && Nat.ble (o - off + sz) cs.length then some (.agg ((cs.drop (o - off)).take sz)) else none) else bif Nat.ble off o then cs[o - off]? else none
def stC (sz : Nat) (cs : List IV) (o : Nat) (v : IV) : Option (List IV) := bif Nat.beq v.cells.length sz && v.cells.all IV.one && Nat.ble (o + sz) cs.length then some (splice cs o v.cells) else none

def ldX (x : Bx × Bool) (agg : Bool) (sz o : Nat) : Option IV := match x.1 with
  | .cells cs _ => ldC agg sz cs o
  | .ro off cs => roC agg sz off cs o
  | _ => none

def pOp (T : Tr Ty) (tm : Tm) (h : H) (op : Op) : It → Option (IV × H × List Prop)
  | .w v => match iop T tm h op with
    | some (u, h') => some (v, h', [u = v])
    | none => none
  | .o v => match op with
    | .indexAddr t x i => match evo tm x, evo tm i with
      | some x, some i => some (v, h, [indexAddrI T t x i = some v])
      | _, _ => none
    | .index t x i => match evo tm x, evo tm i with
      | some x, some i => some (v, h, [indexI T t x i = some v])
      | _, _ => none
    | .load t a => match evo tm a, T.get t with
      | some (.ptr b o), some ty => match h.get b with
        | some (.cells cs _, _) => some (v, h, [ldC (aggD ty.d) ty.size cs o = some v])
        | some (.ro off cs, _) => some (v, h, [roC (aggD ty.d) ty.size off cs o = some v])
        | _ => none
      | _, _ => none
    | .binOp op t x y _ => match evo tm x, evo tm y with
      | some (.int k m), some (.int k' n) => some (v, h, [binI T op t (.tmp 0) (.tmp 0) (.int k m) (.int k' n) = some v])
      | some (.str s), some (.str u) => some (v, h, [binI T op t (.tmp 0) (.tmp 0) (.str s) (.str u) = some v])
      | some (.agg xs), some (.agg ys) => some (v, h, [binI T op t (.tmp 0) (.tmp 0) (.agg xs) (.agg ys) = some v])
      | _, _ => none
    | .slice t x lo hi mx => match evo tm x, evOpt tm lo, evOpt tm hi, evOpt tm mx with
      | some x, some lo, some hi, some mx => match x with
        | .str s => some (v, h, [sliceI T t (.str s) lo hi mx ⟨.leaf, 0⟩ = some v])
        | x => some (v, h, [sliceI T t x lo hi mx h = some v])
      | _, _, _, _ => none
    | _ => none
  | .s cs' => match op with
    | .store t a x => match evo tm a, evo tm x, T.get t with
      | some (.ptr b o), some v, some ty => match h.get b with
        | some (.cells cs e, true) => some (undefI, h.put b (.cells cs' e), [stC ty.size cs o v = some cs'])
        | _ => none
      | _, _, _ => none
    | _ => none
  | .g v h' => match op with
    | .call c => match c.callee with
      | .builtin b => match evos tm c.args.toList with
        | some args => some (v, h', [builtinI T b c.argTypes.toList args h = some (v, h')])
        | none => none
      | _ => none
    | .convert s d x => match evo tm x with
      | some a => some (v, h', [convI T s d a h = some (v, h')])
      | none => none
    | .makeSlice t l c => match evo tm l, evo tm c with
      | some l, some c => some (v, h', [makeSliceI T t l c h = some (v, h')])
      | _, _ => none
    | .build t parts => match evps tm parts.toList with
      | some ps => some (v, h', [buildI T t ps = some v, h' = h])
      | none => none
    | _ => none
  | .l v x => match op with
    | .load t a => match evo tm a, T.get t with
      | some (.ptr b o), some ty => some (v, h, [h.get b = some x, ldX x (aggD ty.d) ty.size o = some v])
      | _, _ => none
    | _ => none
  | .t cs e cs' => match op with
    | .store t a x => match evo tm a, evo tm x, T.get t with
      | some (.ptr b o), some v, some ty => some (undefI, h.put b (.cells cs' e), [h.get b = some (.cells cs e, true), stC ty.size cs o v = some cs'])
      | _, _, _ => none
    | _ => none
  | .c _ _ => none
  | .p _ => none
  | .q _ _ => none

theorem sliceI_str_heap (T : Tr Ty) (t : TypeId) (s : List UInt8) (lo hi mx : Option IV) (h h' : H) : sliceI T t (.str s) lo hi mx h' = sliceI T t (.str s) lo hi mx h := by
  unfold sliceI
  cases T.get t with
  | none => rfl
  | some ty =>
    simp only
    split
    · simp_all
    all_goals simp_all

theorem pOp_sound {T : Tr Ty} {tm : Tm} {h : H} {op : Op} {it : It} {v : IV} {h' : H} {ob : List Prop} (e : pOp T tm h op it = some (v, h', ob)) (hob : AllP ob) : iop T tm h op = some (v, h') := by
  cases it with
  | w u =>
    simp only [pOp] at e
    split at e
    · next u' h1 hi =>
      cases e
      rw [hi, hob.1]
    · cases e
  | c _ _ => cases e
  | p _ => cases e
  | q _ _ => cases e
  | t cs el cs' =>
    cases op <;> simp only [pOp] at e <;> try cases e
    case store t a x =>
      split at e
      · next b o u ty h1 h2 ht =>
        cases e
        obtain ⟨e1, e2, _⟩ := hob
        unfold stC at e2
        simp only [iop, h1, h2, ht, storeI, e1]
        cases hc : (Nat.beq u.cells.length ty.size && u.cells.all IV.one && Nat.ble (o + ty.size) cs.length) with
        | false => rw [hc] at e2; cases e2
        | true =>
          rw [hc] at e2
          simp only [cond_true, Option.some.injEq] at e2 ⊢
          rw [e2]; rfl
      · cases e
  | l u x =>
    cases op <;> simp only [pOp] at e <;> try cases e
    case load t a =>
      split at e
      · next b o ty h1 ht =>
        cases e
        obtain ⟨e1, e2, _⟩ := hob
        obtain ⟨bx, wr⟩ := x
        simp only [iop, h1, ht, loadI, e1]
        cases bx with
        | cells cs el =>
          have e2 : ldC (aggD ty.d) ty.size cs o = some v := e2
          unfold ldC at e2
          simp only [e2, Option.map_some]
        | ro off cs =>
          have e2 : roC (aggD ty.d) ty.size off cs o = some v := e2
          unfold roC at e2
          simp only [e2, Option.map_some]
        | _ => cases e2
      · cases e
  | g u hu =>
    cases op <;> simp only [pOp] at e <;> try cases e
    case call c =>
      split at e
      · next b hb =>
        split at e
        · next args ha =>
          cases e
          simp only [iop, hb, ha, hob.1]
        · cases e
      · cases e
    case convert s d x =>
      split at e
      · next a ha =>
        cases e
        simp only [iop, ha, hob.1]
      · cases e
    case makeSlice t l c =>
      split at e
      · next l c h1 h2 =>
        cases e
        simp only [iop, h1, h2, hob.1]
      · cases e
    case build t parts =>
      split at e
      · next ps h1 =>
        cases e
        obtain ⟨e1, e2, _⟩ := hob
        simp only [iop, h1, e1, e2, Option.map_some]
      · cases e
  | o u =>
    cases op <;> simp only [pOp] at e <;> try cases e
    case load t a =>
      split at e
      · next b o ty h1 ht =>
        split at e
        · next cs el wr hg =>
          cases e
          simp only [iop, h1, ht, loadI, hg]
          have := hob.1
          unfold ldC at this
          rw [this]; rfl
        · next off cs wr hg =>
          cases e
          simp only [iop, h1, ht, loadI, hg]
          have := hob.1
          unfold roC at this
          rw [this]; rfl
        · cases e
      · cases e
    case binOp op t x y yt =>
      split at e
      · next k m k' n h1 h2 =>
        cases e
        simp only [iop, h1, h2]
        have := hob.1
        simp only [binI] at this ⊢
        rw [this]; rfl
      · next s u h1 h2 =>
        cases e
        simp only [iop, h1, h2]
        have := hob.1
        simp only [binI] at this ⊢
        rw [this]; rfl
      · next xs ys h1 h2 =>
        cases e
        simp only [iop, h1, h2]
        have := hob.1
        simp only [binI] at this ⊢
        rw [this]; rfl
      · cases e
    case slice t x lo hi mx =>
      split at e
      · next x lo hi mx h1 h2 h3 h4 =>
        split at e
        · cases e
          simp only [iop, evoG_of h1, h2, h3, h4, sliceI_str_heap T t _ lo hi mx ⟨.leaf, 0⟩ h, hob.1, Option.map_some]
        · cases e
          simp only [iop, evoG_of h1, h2, h3, h4, hob.1, Option.map_some]
      · cases e
    case indexAddr t x i =>
      split at e
      · next x i h1 h2 =>
        cases e
        simp only [iop, h1, h2, hob.1, Option.map_some]
      · cases e
    case index t x i =>
      split at e
      · next x i h1 h2 =>
        cases e
        simp only [iop, h1, h2, hob.1, Option.map_some]
      · cases e
  | s cs' =>
    cases op <;> simp only [pOp] at e <;> try cases e
    case store t a x =>
      split at e
      · next b o u ty h1 h2 ht =>
        split at e
        · next cs el hg =>
          cases e
          have := hob.1
          unfold stC at this
          simp only [iop, h1, h2, ht, storeI, hg]
          cases hc : (Nat.beq u.cells.length ty.size && u.cells.all IV.one && Nat.ble (o + ty.size) cs.length) with
          | false => rw [hc] at this; cases this
          | true =>
            rw [hc] at this
            simp only [cond_true, Option.some.injEq] at this ⊢
            rw [this]; rfl
        · cases e
      · cases e

def oKey (o : Oper) : Nat := match o.dst with
  | some d => d
  | none => match o.op with
    | .store _ (.tmp a) _ => 1000 + a
    | _ => 999

structure Pn where
  code : Nat → Option Nat → Nat → Code → Fr → H → Option (Out × Fr × H × List Prop)
  cl : IV → List IV → H → Option (IV × H × List Prop)

section
variable (P : Program) (T : Tr Ty) (oc : Nat → Nat → Option It)

def pCall (r : Pn) (it : Option It) (fv : IV) (vs : List IV) (h : H) : Option (IV × H × List Prop) := match it with
  | some (.c v h') => some (v, h', [ClEq P fv vs h v h'])
  | some (.p v) => some (v, h, [∀ hh, ClEq P fv vs hh v hh])
  | some (.q v b) => match h.get b with
    | some (.cells cs e, true) => some (v, h, [∀ hh, hh.get b = some (.cells cs e, true) → ClEq P fv vs hh v hh])
    | _ => none
  | some (.w v) => match r.cl fv vs h with
    | some (u, h', ob) => some (v, h', ob ++ [u = v])
    | none => none
  | _ => r.cl fv vs h

def pPlain (tm : Tm) (h : H) (op : Op) (it : Option It) : Option (IV × H × List Prop) := match it with
  | some it => pOp T tm h op it
  | none => match iop T tm h op with
    | some (v, h') => some (v, h', [])
    | none => none

def pOne (r : Pn) (f : Nat) (ops : Array Oper) (o : Oper) (fr : Fr) (h : H) : Option (IV × H × List Prop) :=
  match wantedI ops fr.tm o with
  | false => some (undefI, h, [])
  | true => match o.op with
    | .call c => match c.callee with
      | .value fo => match evo fr.tm fo, evos fr.tm c.args.toList with
        | some fv, some vs => pCall P r (oc f (oKey o)) fv vs h
        | _, _ => none
      | _ => pPlain T fr.tm h (.call c) (oc f (oKey o))
    | op => pPlain T fr.tm h op (oc f (oKey o))

def pOps (r : Pn) (f : Nat) (ops : Array Oper) : List Oper → Fr → H → Option (List (IV × H) × Fr × H × List Prop)
  | [], fr, h => some ([], fr, h, [])
  | o :: l, fr, h => match pOne P T oc r f ops o fr h with
    | none => none
    | some (v, h1, ob) => match pOps r f ops l (fr.put o.dst v) h1 with
      | none => none
      | some (tr, fr', h', ob') => some ((v, h1) :: tr, fr', h', ob ++ ob')

/-- Calls that are pure at every heap. -/
def pcO (f : Nat) (o : Oper) : Bool := match o.op with
  | .call c => match c.callee with
    | .value _ => match oc f (oKey o) with
      | some (.p _) => true
      | _ => false
    | _ => false
  | _ => false

noncomputable def pOk (pc : Oper → Bool) (ops : Array Oper) (b : Bool) (n : Nat) : Bool := match b with
  | true => Pu.drawS T pc ops n
  | false => dstOK ops n
noncomputable def pCalm (pc : Oper → Bool) (ops : Array Oper) (b : Bool) : Bool := match b with
  | true => Pu.chkK T pc ops (befL ops.toList [])
  | false => true
/-- A read, looked at at another heap of its region: a load at an open heap leaves its conditions, all else is looked at. -/
noncomputable def dynOne (f : Nat) (pc : Oper → Bool) (ops : Array Oper) (fr : Fr) (h : H) (tr : List (IV × H)) (j k : Nat) : Option (List Prop) :=
  match ops[j]? with
  | some o => match !(wantedI ops (frAt ops (vAt tr) fr j).tm o) || effOp T o.op || freeOp T o.op || Nat.beq k (Pu.rank T pc ops j) || !Pu.winB T pc ops (befL ops.toList []) j k with
    | true => some []
    | false => match oc f (oKey o) with
      | some (.l v x) => match pOp T (frAt ops (vAt tr) fr j).tm (Pu.hsAt T pc ops h tr k) o.op (.l v x) with
        | some (u, _, ob) => some (ob ++ [u = vAt tr j])
        | none => none
      | _ => match iop T (frAt ops (vAt tr) fr j).tm (Pu.hsAt T pc ops h tr k) o.op with
        | some (u, _) => match u.same (vAt tr j) with
          | true => some []
          | false => none
        | none => none
  | none => some []
def catO : List (Option (List Prop)) → Option (List Prop)
  | [] => some []
  | none :: _ => none
  | some a :: l => match catO l with
    | some b => some (a ++ b)
    | none => none
noncomputable def pDyn (f : Nat) (pc : Oper → Bool) (ops : Array Oper) (fr : Fr) (h : H) (tr : List (IV × H)) : Option (List Prop) :=
  catO ((List.range ops.size).flatMap fun j => (List.range (Pu.rank T pc ops ops.size + 1)).map fun k => dynOne T oc f pc ops fr h tr j k)

noncomputable def pCode (r : Pn) (f : Nat) (rd : Option Nat) (n : Nat) (c : Code) (fr : Fr) (h : H) : Option (Out × Fr × H × List Prop) := match c with
  | .skip => some (.normal, fr, h, [])
  | .label _ => some (.normal, fr, h, [])
  | .exit id => some (.exit id, fr, h, [])
  | .goto l => some (.goto l, fr, h, [])
  | .ret => some (.ret, fr, h, [])
  | .seq x y => match r.code f rd n x fr h with
    | none => none
    | some (o, fr1, h1, ob) => match o with
      | .normal => match r.code f rd n y fr1 h1 with
        | none => none
        | some (o2, fr2, h2, ob2) => some (o2, fr2, h2, ob ++ ob2)
      | o => some (o, fr1, h1, ob)
  | .cond c x y => match evo fr.tm c with
    | some (.bool b) => match b with
      | true => r.code f rd n x fr h
      | false => r.code f rd n y fr h
    | _ => none
  | .block id x => match r.code f rd n x fr h with
    | none => none
    | some (o, fr1, h1, ob) => match o with
      | .exit id' => match Nat.beq id' id with
        | true => some (.normal, fr1, h1, ob)
        | false => some (.exit id', fr1, h1, ob)
      | o => some (o, fr1, h1, ob)
  | .loop x => match r.code f rd n x fr h with
    | none => none
    | some (o, fr1, h1, ob) => match o with
      | .normal => match r.code f rd n (.loop x) fr1 h1 with
        | none => none
        | some (o2, fr2, h2, ob2) => some (o2, fr2, h2, ob ++ ob2)
      | o => some (o, fr1, h1, ob)
  | .region _ ops b => match pOk T (pcO oc f) ops b n with
    | true => match pOps P T oc r f ops ops.toList fr h with
      | none => none
      | some (tr, fr1, h1, ob) => match pCalm T (pcO oc f) ops b with
        | true => some (.normal, fr1, h1, ob)
        | false => match pDyn T oc f (pcO oc f) ops fr h tr with
          | some ob2 => some (.normal, fr1, h1, ob ++ ob2)
          | none => none
    | false => none
  | _ => none

def pRet (fn : Func) (fr : Fr) (h : H) : Option (IV × H) := match takeMarks fr.marks h with
  | some h2 => match resI T h2 fr.tm fn.results.toList with
    | some vs => some (resV vs, h2)
    | none => none
  | none => none

noncomputable def pFun (r : Pn) (f : Nat) (fn : Func) (vs : List IV) (h : H) : Option (IV × H × List Prop) := match okName fn with
  | true => none
  | false => match fn.body with
    | some c => match Nat.ble vs.length fn.ntmps with
      | true => match r.code f none fn.ntmps c ⟨mkTm vs 0 .leaf, []⟩ h with
        | some (o, fr', h', ob) => match o with
          | .normal => match pRet T fn fr' h' with
            | some (v, h2) => some (v, h2, ob)
            | none => none
          | .ret => match pRet T fn fr' h' with
            | some (v, h2) => some (v, h2, ob)
            | none => none
          | _ => none
        | none => none
      | false => none
    | none => none

noncomputable def pCl (r : Pn) (fv : IV) (args : List IV) (h : H) : Option (IV × H × List Prop) := match fv with
  | .func g first cap => match g with
    | .func f => match knth P.funcs.toList f with
      | some fn => pFun T r f fn (first ++ args ++ cap) h
      | none => none
    | _ => none
  | _ => none

noncomputable def pMach (n : Nat) : Pn :=
  Nat.rec (motive := fun _ => Pn) ⟨fun _ _ _ _ _ _ => none, fun _ _ _ => none⟩ (fun _ r => ⟨fun f rd k c fr h => pCode P T oc r f rd k c fr h, fun fv args h => pCl P T r fv args h⟩) n
end

structure SoundP (P : Program) (r : Pn) : Prop where
  code : ∀ f rd k c fr h o fr' h' ob, r.code f rd k c fr h = some (o, fr', h', ob) → AllP ob → EvEq P rd k c fr h o fr' h'
  loop : ∀ f rd k c fr h o fr' h' ob, r.code f rd k (.loop c) fr h = some (o, fr', h', ob) → AllP ob → EvLoop P rd k c (fun o2 f2 h2 => o2 = o ∧ f2 = fr' ∧ h2 = h') fr h
  cl : ∀ fv args h v h' ob, r.cl fv args h = some (v, h', ob) → AllP ob → ClEq P fv args h v h'

section
variable {P : Program} {T : Tr Ty} (hT : TabOK P T) {oc : Nat → Nat → Option It} {r : Pn} (hr : SoundP P r) (hm : P.follows .mixedOrders = true)

theorem pPlain_sound {tm : Tm} {h : H} {op : Op} {it : Option It} {v : IV} {h' : H} {ob : List Prop} (e : pPlain T tm h op it = some (v, h', ob)) (hob : AllP ob) : iop T tm h op = some (v, h') := by
  unfold pPlain at e
  split at e
  · exact pOp_sound e hob
  · split at e
    · next hi => cases e; exact hi
    · cases e

theorem pcO_call {f : Nat} {o : Oper} (h : pcO oc f o = true) : ∃ c fo, o.op = .call c ∧ c.callee = .value fo := by
  unfold pcO at h
  split at h
  · next c hop =>
    split at h
    · next fo hc => exact ⟨c, fo, hop, hc⟩
    · cases h
  · cases h

theorem catO_ok : ∀ {l : List (Option (List Prop))} {ob : List Prop}, catO l = some ob → AllP ob → ∀ x ∈ l, ∃ a, x = some a ∧ AllP a
  | [], _, _, _, x, hx => nomatch hx
  | none :: l, ob, e, _, _, _ => nomatch e
  | some a :: l, ob, e, h, x, hx => by
    simp only [catO] at e
    split at e
    · next b hb =>
      cases e
      have h2 := AllP.append h
      rcases List.mem_cons.1 hx with rfl | hx
      · exact ⟨a, rfl, h2.1⟩
      · exact catO_ok hb h2.2 x hx
    · cases e
theorem pOp_same {tm : Tm} {h : H} {op : Op} {v u : IV} {x : Bx × Bool} {h' : H} {ob : List Prop} (e : pOp T tm h op (.l v x) = some (u, h', ob)) : h' = h := by
  cases op <;> simp only [pOp] at e <;> try cases e
  split at e
  · cases e; rfl
  · cases e

theorem pDyn_ok {f : Nat} {pc : Oper → Bool} {ops : Array Oper} {fr : Fr} {h : H} {tr : List (IV × H)} {ob : List Prop} (hd : pDyn T oc f pc ops fr h tr = some ob) (hob : AllP ob) : Pu.DynOK T pc ops fr h tr := by
  intro j o k ho hw he hp hf hk hk' hwin
  have he : effOp T o.op = false := by simpa [Pu.effP, hp] using he
  obtain ⟨a, ha, hob2⟩ := catO_ok hd hob (dynOne T oc f pc ops fr h tr j k) (List.mem_flatMap.2 ⟨j, List.mem_range.2 (Array.getElem?_eq_some_iff.1 ho).1, List.mem_map.2 ⟨k, List.mem_range.2 (by omega), rfl⟩⟩)
  have hb : Nat.beq k (Pu.rank T pc ops j) = false := by rw [beqE]; exact decide_eq_false hk'
  unfold dynOne at ha
  rw [ho] at ha
  simp only [hw, he, hf, hwin, hb, Bool.not_true, Bool.or_false] at ha
  split at ha
  · next v x hit =>
    split at ha
    · next u h2 ob2 hx =>
      cases ha
      have h2' := AllP.append hob2
      have e1 := pOp_sound hx h2'.1
      rw [pOp_same hx] at e1
      rw [e1, ← h2'.2.1]
    · cases ha
  · split at ha
    · next v h' hi =>
      split at ha
      · next hs =>
        rw [← IV.same_eq _ _ hs]
        rw [hi, iop_eff he hi]
      · cases ha
    · cases ha

include hr in
theorem pCall_sound {it : Option It} {fv : IV} {vs : List IV} {h : H} {v : IV} {h' : H} {ob : List Prop} (e : pCall P r it fv vs h = some (v, h', ob)) (hob : AllP ob) : ClEq P fv vs h v h' := by
  unfold pCall at e
  split at e
  · cases e; exact hob.1
  · cases e; exact hob.1 _
  · split at e
    · next hg => cases e; exact hob.1 _ hg
    · cases e
  · split at e
    · next u h1 ob1 hc =>
      cases e
      have hb := AllP.append hob
      have := hb.2.1
      subst this
      exact hr.cl _ _ _ _ _ _ hc hb.1
    · cases e
  · exact hr.cl _ _ _ _ _ _ e hob

include hr in
theorem pOps_sound {f : Nat} {ops : Array Oper} : ∀ {l : List Oper} {fr : Fr} {h : H} {tr : List (IV × H)} {fr' : Fr} {h' : H} {ob : List Prop}, pOps P T oc r f ops l fr h = some (tr, fr', h', ob) → AllP ob → Pu.TRun P T (pcO oc f) ops l fr h tr fr' h' := by
  intro l
  induction l with
  | nil => intro fr h tr fr' h' ob e _; cases e; exact .nil
  | cons o l ih =>
    intro fr h tr fr' h' ob e hob
    simp only [pOps] at e
    split at e
    case h_1 => cases e
    rename_i v h1 ob1 h1e
    split at e
    case h_1 => cases e
    rename_i tr2 fr2 h2 ob2 h2e
    cases e
    have hb := AllP.append hob
    have ht := ih h2e hb.2
    unfold pOne at h1e
    cases hw : wantedI ops fr.tm o with
    | false =>
      rw [hw] at h1e
      cases h1e
      exact .skip hw ht
    | true =>
      rw [hw] at h1e
      simp only at h1e
      split at h1e
      · next c hop =>
        split at h1e
        · next fo hc =>
          split at h1e
          · next fv vs hfv hvs =>
            cases hp : pcO oc f o with
            | false => exact .call hw hp hop hc hfv hvs (pCall_sound hr h1e hb.1) ht
            | true =>
              have hit : ∃ u, oc f (oKey o) = some (.p u) := by
                unfold pcO at hp
                rw [hop] at hp
                simp only [hc] at hp
                split at hp
                · next u hu => exact ⟨u, hu⟩
                · cases hp
              obtain ⟨u, hu⟩ := hit
              rw [hu] at h1e
              simp only [pCall] at h1e
              cases h1e
              exact .pure hw hp hop hc hfv hvs hb.1.1 ht
          · cases h1e
        · exact .op hw (by rw [hop]; exact pPlain_sound h1e hb.1) ht
      · exact .op hw (pPlain_sound h1e hb.1) ht

include hr in
theorem pLoop_sound {f : Nat} {c : Code} {rd : Option Nat} {n : Nat} {fr : Fr} {h : H} {o : Out} {fr' : Fr} {h' : H} {ob : List Prop} (e : pCode P T oc r f rd n (.loop c) fr h = some (o, fr', h', ob)) (hob : AllP ob) :
    EvLoop P rd n c (fun o2 f2 h2 => o2 = o ∧ f2 = fr' ∧ h2 = h') fr h := by
  simp only [pCode] at e
  split at e
  case h_1 => cases e
  rename_i o1 fr1 h1 ob1 hx
  cases o1 with
  | normal =>
    simp only at e
    split at e
    case h_1 => cases e
    rename_i o2 fr2 h2 ob2 hy
    cases e
    have hb := AllP.append hob
    refine EvLoop.round (Ev.mono (hr.code _ _ _ _ _ _ _ _ _ _ hx hb.1) ?_)
    rintro o2 f2 h2 ⟨rfl, rfl, rfl⟩
    exact hr.loop _ _ _ _ _ _ _ _ _ _ hy hb.2
  | _ =>
    cases e
    refine EvLoop.round (Ev.mono (hr.code _ _ _ _ _ _ _ _ _ _ hx hob) ?_)
    rintro o2 f2 h2 ⟨rfl, rfl, rfl⟩
    exact ⟨rfl, rfl, rfl⟩

include hT hr hm in
theorem pCode_sound {f : Nat} {c : Code} {rd : Option Nat} {n : Nat} {fr : Fr} {h : H} {o : Out} {fr' : Fr} {h' : H} {ob : List Prop} (e : pCode P T oc r f rd n c fr h = some (o, fr', h', ob)) (hob : AllP ob) :
    EvEq P rd n c fr h o fr' h' := by
  cases c with
  | skip => cases e; exact Ev.skip ⟨rfl, rfl, rfl⟩
  | label l => cases e; exact Ev.label ⟨rfl, rfl, rfl⟩
  | exit id => cases e; exact Ev.exit ⟨rfl, rfl, rfl⟩
  | goto l => cases e; exact Ev.goto ⟨rfl, rfl, rfl⟩
  | ret => cases e; exact Ev.ret ⟨rfl, rfl, rfl⟩
  | seq x y =>
    simp only [pCode] at e
    split at e
    case h_1 => cases e
    rename_i o1 fr1 h1 ob1 hx
    cases o1 with
    | normal =>
      simp only at e
      split at e
      case h_1 => cases e
      rename_i o2 fr2 h2 ob2 hy
      cases e
      have hb := AllP.append hob
      refine Ev.seq (Ev.mono (hr.code _ _ _ _ _ _ _ _ _ _ hx hb.1) ?_)
      rintro o2 f2 h2 ⟨rfl, rfl, rfl⟩
      exact hr.code _ _ _ _ _ _ _ _ _ _ hy hb.2
    | _ =>
      cases e
      refine Ev.seq (Ev.mono (hr.code _ _ _ _ _ _ _ _ _ _ hx hob) ?_)
      rintro o2 f2 h2 ⟨rfl, rfl, rfl⟩
      exact ⟨rfl, rfl, rfl⟩
  | cond c x y =>
    simp only [pCode] at e
    split at e
    · next b hv => cases b <;> exact Ev.cond hv (hr.code _ _ _ _ _ _ _ _ _ _ e hob)
    · cases e
  | block id x =>
    simp only [pCode] at e
    split at e
    case h_1 => cases e
    rename_i o1 fr1 h1 ob1 hx
    have key : ob = ob1 := by
      cases o1 with
      | exit id' =>
        simp only at e
        split at e <;> (cases e; rfl)
      | _ => cases e; rfl
    subst key
    refine Ev.block (Ev.mono (hr.code _ _ _ _ _ _ _ _ _ _ hx hob) ?_)
    rintro o2 f2 h2 ⟨rfl, rfl, rfl⟩
    cases o2 with
    | exit id' =>
      simp only [Out.block]
      simp only at e
      cases hb : Nat.beq id' id with
      | true => rw [hb] at e; cases e; rw [if_pos (Nat.eq_of_beq_eq_true hb)]; exact ⟨rfl, rfl, rfl⟩
      | false =>
        rw [hb] at e
        cases e
        rw [if_neg]
        · exact ⟨rfl, rfl, rfl⟩
        · intro e2; rw [e2] at hb; simp at hb
    | _ => cases e; exact ⟨rfl, rfl, rfl⟩
  | loop x => exact Ev.loop (pLoop_sound (T := T) hr e hob)
  | region id ops b =>
    simp only [pCode] at e
    split at e
    case h_2 => cases e
    rename_i hok2
    split at e
    case h_1 => cases e
    rename_i tr fr1 h1 ob1 hx
    have hok : (if b then Pu.drawS T (pcO oc f) ops n else dstOK ops n) = true := by cases b <;> simpa [pOk] using hok2
    have fin : AllP ob1 → ob1 = ob1 → o = .normal → fr1 = fr' → h1 = h' → (b = true → Pu.DynOK T (pcO oc f) ops fr h tr) → EvEq P rd n (.region id ops b) fr h o fr' h' := by
      rintro hob1 _ rfl rfl rfl hdyn
      exact Pu.Ev.region_textD hT hm (fun o => pcO_call) hok (pOps_sound hr hx hob1) hdyn ⟨rfl, rfl, rfl⟩
    split at e
    · next hc =>
      cases e
      refine fin hob rfl rfl rfl rfl fun hb2 => ?_
      subst hb2
      exact Pu.DynOK.of_chk hc
    · split at e
      · next ob2 hd =>
        cases e
        have hb := AllP.append hob
        exact fin hb.1 rfl rfl rfl rfl fun _ => pDyn_ok hd hb.2
      · cases e
  | _ => cases e

theorem pRet_sound {fn : Func} {fr : Fr} {h : H} {v : IV} {h2 : H} {o : Out} (ho : o = .normal ∨ o = .ret) (e : pRet T fn fr h = some (v, h2)) : BodyQ T fn.results.toList (fun v2 h3 => v2 = v ∧ h3 = h2) o fr h := by
  unfold pRet at e
  split at e
  case h_2 => cases e
  rename_i h3 hmk
  split at e
  case h_2 => cases e
  rename_i vs hvs
  cases e
  exact ⟨ho, _, vs, hmk, hvs, rfl, rfl⟩

include hT hr in
theorem pFun_sound {f : Nat} {fn : Func} (hf : P.funcs[f]? = some fn) {args : List IV} {h : H} {v : IV} {h' : H} {ob : List Prop} (e : pFun T r f fn args h = some (v, h', ob)) (hob : AllP ob) :
    SpEq P f args h v h' ∧ Go.Proofs.Enters P f := by
  unfold pFun at e
  cases hn : okName fn with
  | true => rw [hn] at e; cases e
  | false =>
    rw [hn] at e
    simp only at e
    split at e
    case h_2 => cases e
    rename_i c hb
    cases hl : Nat.ble args.length fn.ntmps with
    | false => rw [hl] at e; cases e
    | true =>
      rw [hl] at e
      simp only at e
      split at e
      case h_2 => cases e
      rename_i o fr1 h1 ob1 hx
      have key : ∃ v2 h2, pRet T fn fr1 h1 = some (v2, h2) ∧ (o = .normal ∨ o = .ret) ∧ v2 = v ∧ h2 = h' ∧ ob1 = ob := by
        cases o with
        | normal => simp only at e; split at e <;> cases e; next hp => exact ⟨_, _, hp, .inl rfl, rfl, rfl, rfl⟩
        | ret => simp only at e; split at e <;> cases e; next hp => exact ⟨_, _, hp, .inr rfl, rfl, rfl, rfl⟩
        | _ => cases e
      obtain ⟨v2, h2, hp, ho, rfl, rfl, rfl⟩ := key
      refine ⟨Sp.of_ev hT hf hb (Nat.le_of_ble_eq_true hl) (Ev.mono (hr.code _ _ _ _ _ _ _ _ _ _ hx hob) ?_), enters hf hn hb⟩
      rintro o2 f2 h3 ⟨rfl, rfl, rfl⟩
      exact pRet_sound ho hp

include hT hr in
theorem pCl_sound {fv : IV} {args : List IV} {h : H} {v : IV} {h' : H} {ob : List Prop} (e : pCl P T r fv args h = some (v, h', ob)) (hob : AllP ob) : ClEq P fv args h v h' := by
  unfold pCl at e
  split at e
  case h_2 => cases e
  split at e
  case h_2 => cases e
  rw [knth_eq, Array.getElem?_toList] at e
  split at e
  case h_2 => cases e
  rename_i fn hf
  have := pFun_sound hT hr hf e hob
  exact Cl.of_sp this.2 this.1
end

theorem pMach_sound {P : Program} {T : Tr Ty} (hT : TabOK P T) (hm : P.follows .mixedOrders = true) (oc : Nat → Nat → Option It) : ∀ n, SoundP P (pMach P T oc n)
  | 0 => ⟨fun _ _ _ _ _ _ _ _ _ _ e => (nomatch e), fun _ _ _ _ _ _ _ _ _ _ e => (nomatch e), fun _ _ _ _ _ _ e => (nomatch e)⟩
  | n + 1 => ⟨fun _ _ _ _ _ _ _ _ _ _ e hob => pCode_sound hT (pMach_sound hT hm oc n) hm e hob, fun _ _ _ _ _ _ _ _ _ _ e hob => pLoop_sound (T := T) (oc := oc) (pMach_sound hT hm oc n) e hob, fun _ _ _ _ _ _ e hob => pCl_sound hT (pMach_sound hT hm oc n) e hob⟩

/-! ### Frames, by what is live -/
def FrIs (n : Nat) (fr : Fr) (F : Nat → IV) (ms : List Mk) : Prop := fr.marks = ms ∧ ∀ j, j < n → fr.tm.tmp j = F j
def canon (n : Nat) (F : Nat → IV) (ms : List Mk) : Fr := ⟨mkTm ((List.range n).map F) 0 .leaf, ms⟩

theorem canon_tmp (n : Nat) (F : Nat → IV) (ms : List Mk) (j : Nat) : (canon n F ms).tm.tmp j = if j < n then F j else undefI := by
  simp only [canon, mkTm_tmp, List.length_map, List.length_range, Nat.zero_le, true_and, Nat.zero_add, Nat.sub_zero]
  split
  · next h => simp [List.getD, h]
  · rfl

theorem ARel.canon {E : Env} {m n : Nat} {fr : Fr} {a : Act} {F : Nat → IV} {ms : List Mk} (hf : FrIs n fr F ms) (ha : ARel E m n fr a) : ARel E m n (Sx.canon n F ms) a := by
  have hv : ∀ j, (Sx.canon n F ms).tm.tmp j = if j < n then fr.tm.tmp j else undefI := fun j => by
    rw [canon_tmp]
    split
    · next h => rw [hf.2 j h]
    · rfl
  refine ⟨⟨ha.f.size, fun j => ?_, fun j => ?_⟩, ?_, ?_⟩
  · rw [hv]
    split
    · exact ha.f.val j
    · next h =>
      rw [den_undef, Array.getD_eq_getD_getElem?, Array.getElem?_eq_none (by rw [ha.f.size]; omega)]
      rfl
  · rw [hv]
    split
    · exact ha.f.under j
    · simp [undefI, IV.under, underL]
  · rw [ha.d, hf.1]; rfl
  · intro r hr
    exact ha.u r (by rw [hf.1]; exact hr)

theorem Ev.canon {P : Program} {rd : Option Nat} {n : Nat} {c : Code} {Q : Out → Fr → H → Prop} {fr : Fr} {h : H} {F : Nat → IV} {ms : List Mk} (hf : FrIs n fr F ms) (he : Ev P rd n c Q (Sx.canon n F ms) h) : Ev P rd n c Q fr h :=
  fun w0 E w a hr hrd ha => he w0 E w a hr hrd (ha.canon hf)

theorem FrIs.canon (n : Nat) (F : Nat → IV) (ms : List Mk) : FrIs n (Sx.canon n F ms) F ms := ⟨rfl, fun j hj => by rw [canon_tmp, if_pos hj]⟩

/-- Named values over the rest. -/
def ov : List Nat → List IV → (Nat → IV) → Nat → IV
  | l :: ls, v :: vs, g, j => bif Nat.beq j l then v else ov ls vs g j
  | _, _, g, j => g j

theorem ov_self (g : Nat → IV) (j : Nat) : ∀ live : List Nat, ov live (live.map g) g j = g j
  | [] => rfl
  | l :: ls => by
    simp only [List.map, ov]
    cases hb : Nat.beq j l with
    | true => rw [Nat.eq_of_beq_eq_true hb]; rfl
    | false => exact ov_self g j ls

noncomputable def pxR (P : Program) (T : Tr Ty) (oc : Nat → Nat → Option It) (fuel f : Nat) (rd : Option Nat) (n : Nat) (c : Code) (fr : Fr) (h : H) (live : List Nat) : Option (Out × List IV × H × List Mk × List Prop) :=
  match (pMach P T oc fuel).code f rd n c fr h with
  | some (o, fr', h', ob) => some (o, live.map fr'.tm.tmp, h', fr'.marks, ob)
  | none => none

theorem Ev.px {P : Program} {T : Tr Ty} (hT : TabOK P T) (hm : P.follows .mixedOrders = true) {oc : Nat → Nat → Option It} {fuel f : Nat} {rd : Option Nat} {n : Nat} {c : Code} {fr : Fr} {h : H} {F : Nat → IV} {ms : List Mk}
    {live : List Nat} {o : Out} {vals : List IV} {h' : H} {ms' : List Mk} {ob : List Prop} {Q : Out → Fr → H → Prop} (hf : FrIs n fr F ms)
    (hrun : pxR P T oc fuel f rd n c (Sx.canon n F ms) h live = some (o, vals, h', ms', ob)) (hob : AllP ob) (hk : ∀ fr' g, FrIs n fr' (ov live vals g) ms' → Q o fr' h') : Ev P rd n c Q fr h := by
  refine Ev.canon hf ?_
  unfold pxR at hrun
  split at hrun
  case h_2 => cases hrun
  rename_i o1 fr1 h1 ob1 hx
  cases hrun
  refine Ev.mono ((pMach_sound hT hm oc fuel).code _ _ _ _ _ _ _ _ _ _ hx hob) ?_
  rintro o2 f2 h2 ⟨rfl, rfl, rfl⟩
  exact hk f2 f2.tm.tmp ⟨rfl, fun j _ => (ov_self _ _ _).symm⟩

/-- A call of a function without loops. -/
noncomputable def pfR (P : Program) (T : Tr Ty) (oc : Nat → Nat → Option It) (fuel f : Nat) (args : List IV) (h : H) : Option (IV × H × List Prop) :=
  match knth P.funcs.toList f with
  | some fn => pFun T (pMach P T oc fuel) f fn args h
  | none => none

theorem Sp.px {P : Program} {T : Tr Ty} (hT : TabOK P T) (hm : P.follows .mixedOrders = true) {oc : Nat → Nat → Option It} {fuel f : Nat} {args : List IV} {h : H} {v : IV} {h' : H} {ob : List Prop}
    (hrun : pfR P T oc fuel f args h = some (v, h', ob)) (hob : AllP ob) : SpEq P f args h v h' := by
  unfold pfR at hrun
  rw [knth_eq, Array.getElem?_toList] at hrun
  split at hrun
  case h_2 => cases hrun
  rename_i fn hf
  exact (pFun_sound hT (pMach_sound hT hm oc fuel) hf hrun hob).1

/-! ### What is not needed any more is forgotten -/
theorem ORel.shrink {P : Program} {E E' : Env} {n n' i : Nat} {o : Bx} {ob ob' : Option Obj} (a : ORel P E n i o ob) (b : ORel P E' n' i o ob') : ORel P E' n i o ob' := by
  cases o with
  | cells cs elem =>
    obtain ⟨_, _, _, _, _, h3, _⟩ := a
    obtain ⟨extra, lo, hh, h1, h2, _, h4⟩ := b
    exact ⟨extra, lo, hh, h1, h2, h3, h4⟩
  | map es clock => exact ⟨b.1, a.2⟩
  | strIter s pos => exact b
  | mapIter m since seen last => exact ⟨b.1, a.2⟩
  | loop st pending ntmps tm params assign body defers =>
    obtain ⟨_, _, _, _, _, h4, h5⟩ := a
    obtain ⟨tmps, fn, h1, h2, h3, _, _⟩ := b
    exact ⟨tmps, fn, h1, h2, h3, h4, h5⟩
  | defs taken => exact b
  | glob g rt ng t => exact b
  | ro off cs => exact ⟨b.1, a.2⟩
  | gname g j => exact ⟨b.1, a.2⟩

theorem Rel.forget {P : Program} {w0 : World} {E E' : Env} {h h' : H} {w w' : World} (a : Rel P w0 E h w) (b : Rel P w0 E' h' w') (hk : ∀ i x, h.get i = some x → h'.get i = some x) : Rel P w0 E' h w' :=
  ⟨b.below, a.dom, fun i o wr hi => ⟨(a.obj i o wr hi).1.shrink (b.obj i o wr (hk _ _ hi)).1, (b.obj i o wr (hk _ _ hi)).2⟩, fun i o hi => b.wr i o (hk _ _ hi),
    fun i j x y hi hj hw he => b.inj i j x y (hk _ _ hi) (hk _ _ hj) hw he⟩

theorem Sp.forget {P : Program} {f : FuncId} {args : List IV} {h : H} {v : IV} (hv : v.flat = true) (hs : Sp P f args h fun v' h' => v' = v ∧ ∀ i x, h.get i = some x → h'.get i = some x) : SpEq P f args h v h := by
  intro w0 E w hr hu
  refine (hs w0 E w hr hu).mono ?_
  rintro e w' ⟨v', h', E', rfl, hr', hs', hv', rfl, hk⟩
  exact ⟨v', h, E', rfl, hr.forget hr' hk, ⟨hs'.ext, Nat.le_refl _⟩, IV.under_of_flat _ _ hv, rfl, rfl⟩
end Sx
