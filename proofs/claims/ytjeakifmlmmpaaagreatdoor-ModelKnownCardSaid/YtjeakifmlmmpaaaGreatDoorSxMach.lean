/- The machine that runs bodies, and what its answer tells. -/
import Derived.Test.YtjeakifmlmmpaaaGreatDoorSxEval
import Derived.Test.YtjeakifmlmmpaaaGreatDoorSxExt
namespace Sx
open Go Go.RowKit
set_option linter.unusedSimpArgs false

abbrev KR := Option (Out × Fr × H)

section
variable {β : Type}
noncomputable def kput (d : Option Tmp) (v : IV) (tm : Tm) (ms : List Mk) (k : Fr → Option β) : Option β := match d with
  | some d => ksetT tm d (some v) fun tm => k ⟨tm, ms⟩
  | none => k ⟨tm, ms⟩
theorem kput_eq (d : Option Tmp) (v : IV) (tm : Tm) (ms : List Mk) (k : Fr → Option β) : kput d v tm ms k = k (Fr.put ⟨tm, ms⟩ d v) := by
  cases d with
  | none => rfl
  | some d => exact ksetT_eq _ _ _ _

noncomputable def kexec (r : Rn) (T : Tr Ty) (o : Oper) (tm : Tm) (ms : List Mk) (h : H) (ih : IV → Fr → H → Option β) : Option β :=
  kop o.op r T tm h fun v h1 => kput o.dst v tm ms fun fr => ih v fr h1

noncomputable def kwant (ops : Array Oper) (g : Nat × Bool) (tm : Tm) : Bool := match knth ops.toList g.1 with
  | some o => match o.dst with
    | some d => match kget tm d with
      | some (.bool b) => match b with
        | true => g.2
        | false => !g.2
      | _ => false
    | none => false
  | none => false

theorem kwant_eq (ops : Array Oper) (tm : Tm) (o : Oper) : wantedI ops tm o = match o.guard with | none => true | some g => kwant ops g tm := by
  unfold wantedI kwant
  cases o.guard with
  | none => rfl
  | some g =>
    obtain ⟨j, b⟩ := g
    simp only [knth_eq, Array.getElem?_toList, kget_eq]
    cases ops[j]? with
    | none => rfl
    | some o =>
      simp only [Option.bind_some]
      cases o.dst with
      | none => rfl
      | some d =>
        simp only [Tr.tmp]
        cases tm.get d with
        | none => rfl
        | some v => cases v <;> first | rfl | (rename_i c; cases c <;> cases b <;> rfl)

noncomputable def kone (r : Rn) (T : Tr Ty) (ops : Array Oper) (o : Oper) (fr : Fr) (h : H) (ih : IV → Fr → H → Option β) : Option β := match fr with
  | ⟨tm, ms⟩ => match o.guard with
    | none => kexec r T o tm ms h ih
    | some g => match kwant ops g tm with
      | true => kexec r T o tm ms h ih
      | false => kput o.dst undefI tm ms fun fr => ih undefI fr h
end

noncomputable def kops (r : Rn) (T : Tr Ty) (ops : Array Oper) (l : List Oper) : Fr → H → Option (Fr × H) :=
  List.rec (motive := fun _ => Fr → H → Option (Fr × H)) (fun fr h => some (fr, h)) (fun o _ ih fr h => kone r T ops o fr h fun _ fr h => ih fr h) l

/-- The same, with its trace. -/
noncomputable def kopsT (r : Rn) (T : Tr Ty) (ops : Array Oper) (l : List Oper) : Fr → H → Option (List (IV × H) × Fr × H) :=
  List.rec (motive := fun _ => Fr → H → Option (List (IV × H) × Fr × H)) (fun fr h => some ([], fr, h)) (fun o _ ih fr h => kone r T ops o fr h fun v fr1 h1 => match ih fr1 h1 with
    | some (tr, x) => some ((v, h1) :: tr, x)
    | none => none) l

/-! ### Equality of values -/
def capEq : Cap → Cap → Bool
  | .hard a, .hard b => Nat.beq a b
  | .soft a, .soft b => Nat.beq a b
  | _, _ => false
def bytesEq : List UInt8 → List UInt8 → Bool
  | [], [] => true
  | a :: x, b :: y => Nat.beq a.toNat b.toNat && bytesEq x y
  | _, _ => false
mutual
def IV.same : IV → IV → Bool
  | .bool a, .bool b => bif a then b else !b
  | .int k a, .int k' b => kkEq k k' && (match a, b with
    | .ofNat a, .ofNat b => Nat.beq a b
    | .negSucc a, .negSucc b => Nat.beq a b
    | _, _ => false)
  | .str a, .str b => bytesEq a b
  | .nilptr, .nilptr => true
  | .ptr a o, .ptr b o' => Nat.beq a b && Nat.beq o o'
  | .nilslice, .nilslice => true
  | .slice a o n c, .slice b o' n' c' => Nat.beq a b && Nat.beq o o' && Nat.beq n n' && capEq c c'
  | .nilmap, .nilmap => true
  | .map a, .map b => Nat.beq a b
  | .nilfunc, .nilfunc => true
  | .nilif, .nilif => true
  | .agg a, .agg b => sameL a b
  | .tup a, .tup b => sameL a b
  | .iface t a, .iface u b => Nat.beq t u && a.same b
  | _, _ => false
def sameL : List IV → List IV → Bool
  | [], [] => true
  | a :: x, b :: y => a.same b && sameL x y
  | _, _ => false
end


theorem beqT {a b : Nat} (h : Nat.beq a b = true) : a = b := Nat.eq_of_beq_eq_true h
theorem capEq_eq : ∀ {a b : Cap}, capEq a b = true → a = b
  | .hard a, .hard b, h => by rw [beqT h]
  | .soft a, .soft b, h => by rw [beqT h]
  | .hard _, .soft _, h => by cases h
  | .soft _, .hard _, h => by cases h
theorem bytesEq_eq : ∀ {a b : List UInt8}, bytesEq a b = true → a = b
  | [], [], _ => rfl
  | a :: x, b :: y, h => by
    simp only [bytesEq, Bool.and_eq_true] at h
    rw [UInt8.toNat_inj.1 (beqT h.1), bytesEq_eq h.2]
  | [], _ :: _, h => by cases h
  | _ :: _, [], h => by cases h
mutual
theorem IV.same_eq : ∀ (a b : IV), a.same b = true → a = b
  | .bool a, b, h => by cases b <;> simp [IV.same] at h; rename_i b; cases a <;> cases b <;> simp_all
  | .int k a, b, h => by
    cases b <;> simp [IV.same] at h
    rename_i k' b
    rw [kkEq_eq] at h
    have := of_decide_eq_true h.1
    subst this
    cases a <;> cases b <;> simp_all
  | .str a, b, h => by cases b <;> simp [IV.same] at h; rw [bytesEq_eq h]
  | .nilptr, b, h => by cases b <;> simp [IV.same] at h; rfl
  | .ptr a o, b, h => by cases b <;> simp [IV.same] at h; rw [h.1, h.2]
  | .nilslice, b, h => by cases b <;> simp [IV.same] at h; rfl
  | .slice a o n c, b, h => by cases b <;> simp [IV.same] at h; rw [h.1.1.1, h.1.1.2, h.1.2, capEq_eq h.2]
  | .nilmap, b, h => by cases b <;> simp [IV.same] at h; rfl
  | .map a, b, h => by cases b <;> simp [IV.same] at h; rw [h]
  | .func _ _ _, b, h => by cases b <;> simp [IV.same] at h
  | .nilfunc, b, h => by cases b <;> simp [IV.same] at h; rfl
  | .iface t a, b, h => by cases b <;> simp [IV.same] at h; rw [h.1, IV.same_eq a _ h.2]
  | .nilif, b, h => by cases b <;> simp [IV.same] at h; rfl
  | .agg a, b, h => by cases b <;> simp [IV.same] at h; rw [sameL_eq a _ h]
  | .tup a, b, h => by cases b <;> simp [IV.same] at h; rw [sameL_eq a _ h]
theorem sameL_eq : ∀ (a b : List IV), sameL a b = true → a = b
  | [], [], _ => rfl
  | a :: x, b :: y, h => by
    simp only [sameL, Bool.and_eq_true] at h
    rw [IV.same_eq a b h.1, sameL_eq x y h.2]
  | [], _ :: _, h => by cases h
  | _ :: _, [], h => by cases h
end

/-- The reads whose place is open read the same at each place. -/
noncomputable def dynB (T : Tr Ty) (ops : Array Oper) (fr : Fr) (h : H) (tr : List (IV × H)) : Bool :=
  (List.range ops.size).all fun j => match ops[j]? with
    | some o => !(wantedI ops (frAt ops (vAt tr) fr j).tm o) || effOp T o.op || freeOp T o.op || (List.range (rank T ops ops.size + 1)).all fun k => Nat.beq k (rank T ops j) || !winB T ops (befL ops.toList []) j k ||
      (match iop T (frAt ops (vAt tr) fr j).tm (hsAt T ops h tr k) o.op with
      | some (v, _) => v.same (vAt tr j)
      | none => false)
    | none => true

abbrev KC := Rn → Tr Ty → Option Nat → Nat → Fr → H → KR

noncomputable def kSeq (x y : Code) : KC := fun r _ rd n fr h => match r.code rd n x fr h with
  | none => none
  | some (o, fr1, h1) => match o with
    | .normal => r.code rd n y fr1 h1
    | o => some (o, fr1, h1)
noncomputable def kCond (c : Operand) (x y : Code) : KC := fun r _ rd n fr h => kev c fr.tm fun v => match v with
  | .bool b => match b with
    | true => r.code rd n x fr h
    | false => r.code rd n y fr h
  | _ => none
noncomputable def kBlock (id : Nat) (x : Code) : KC := fun r _ rd n fr h => match r.code rd n x fr h with
  | none => none
  | some (o, fr1, h1) => match o with
    | .exit id' => match Nat.beq id' id with
      | true => some (.normal, fr1, h1)
      | false => some (.exit id', fr1, h1)
    | o => some (o, fr1, h1)
noncomputable def kLoop (x : Code) : KC := fun r _ rd n fr h => match r.code rd n x fr h with
  | none => none
  | some (o, fr1, h1) => match o with
    | .normal => r.code rd n (.loop x) fr1 h1
    | o => some (o, fr1, h1)
noncomputable def okR (T : Tr Ty) (ops : Array Oper) (b : Bool) (n : Nat) : Bool := match b with
  | true => drawS T ops n
  | false => dstOK ops n
noncomputable def calmR (T : Tr Ty) (ops : Array Oper) (b : Bool) : Bool := match b with
  | true => chkK T ops (befL ops.toList [])
  | false => true
noncomputable def kRegion (ops : Array Oper) (b : Bool) : KC := fun r T _ n fr h => match okR T ops b n with
  | true => match calmR T ops b with
    | true => match kops r T ops ops.toList fr h with
      | none => none
      | some (fr1, h1) => some (.normal, fr1, h1)
    | false => match kopsT r T ops ops.toList fr h with
      | none => none
      | some (tr, x) => match dynB T ops fr h tr with
        | true => some (.normal, x)
        | false => none
  | false => none
noncomputable def afterI (h : H) (fr : Fr) (l : Nat) (k : Code → Fr → H → KR) : KR := match h with
  | ⟨t, nx⟩ => match kget t l with
    | some (.loop st pd _ _ _ _ _ _, true) => match st with
      | .busy => none
      | _ => ksetT t l none fun t => match pd with
        | none => some (.normal, fr, ⟨t, nx⟩)
        | some c => k c fr ⟨t, nx⟩
    | _ => none
noncomputable def kRange (fo : Operand) (params : Array Tmp) (assign body : Code) : KC := fun r _ rd n fr h => match rd with
  | some _ => none
  | none => match fr with
    | ⟨tm, ms⟩ => kev fo tm fun fv => match fv with
      | .func g first cap => match g with
        | .func f => match h with
          | ⟨t, nx⟩ => ksetT t nx (some (.defs false, true)) fun t => fNat (Nat.succ nx) fun l => fNat (Nat.succ l) fun nx2 =>
            ksetT t l (some (.loop .ready none n tm params.toList assign body nx, true)) fun t => match r.cl (.func (.func f) first cap) [.func (.yield l) [] []] ⟨t, nx2⟩ with
            | some x => afterI x.2 ⟨tm, .col nx :: ms⟩ l fun c fr h => r.code none n c fr h
            | none => none
        | _ => none
      | _ => none

noncomputable def kcode (c : Code) : KC := match c with
  | .skip => fun _ _ _ _ fr h => some (.normal, fr, h)
  | .label _ => fun _ _ _ _ fr h => some (.normal, fr, h)
  | .exit id => fun _ _ _ _ fr h => some (.exit id, fr, h)
  | .goto l => fun _ _ _ _ fr h => some (.goto l, fr, h)
  | .ret => fun _ _ _ _ fr h => some (.ret, fr, h)
  | .seq x y => kSeq x y
  | .cond c x y => kCond c x y
  | .block id x => kBlock id x
  | .loop x => kLoop x
  | .region _ ops b => kRegion ops b
  | .rangeFunc fo params assign body => kRange fo params assign body
  | _ => fun _ _ _ _ _ _ => none

noncomputable def yieldE (l : Nat) (o : Out) (h2 : H) : Option (IV × H) := match h2 with
  | ⟨t, nx⟩ => match kget t l with
    | some (.loop _ _ n2 tm2 params2 assign2 body2 d2, true) => match o with
      | .normal => ksetT t l (some (.loop .ready none n2 tm2 params2 assign2 body2 d2, true)) fun t => some (.bool true, ⟨t, nx⟩)
      | .ret => ksetT t l (some (.loop .done (some .ret) n2 tm2 params2 assign2 body2 d2, true)) fun t => some (.bool false, ⟨t, nx⟩)
      | .exit id => ksetT t l (some (.loop .done (some (.exit id)) n2 tm2 params2 assign2 body2 d2, true)) fun t => some (.bool false, ⟨t, nx⟩)
      | .goto k => ksetT t l (some (.loop .done (some (.goto k)) n2 tm2 params2 assign2 body2 d2, true)) fun t => some (.bool false, ⟨t, nx⟩)
      | .panic _ => none
    | _ => none
noncomputable def yieldB (r : Rn) (l n : Nat) (body : Code) (fr1 : Fr) (h1 : H) : Option (IV × H) := match h1 with
  | ⟨t, nx⟩ => match kget t l with
    | some (.loop .ready pd1 n1 tm1 params1 assign1 body1 d1, true) => ksetT t l (some (.loop .busy pd1 n1 tm1 params1 assign1 body1 d1, true)) fun t =>
      match r.code (some l) n body fr1 ⟨t, nx⟩ with
      | some (o, _, h2) => yieldE l o h2
      | none => none
    | _ => none
noncomputable def kparams (ps : List Nat) : List IV → Tm → (Tm → Option (IV × H)) → Option (IV × H) :=
  List.rec (motive := fun _ => List IV → Tm → (Tm → Option (IV × H)) → Option (IV × H)) (fun _ tm k => k tm)
    (fun p _ ih vs tm k => match vs with
      | [] => k tm
      | v :: vs => ksetT tm p (some v) fun tm => ih vs tm k) ps
theorem kparams_eq (ps : List Nat) : ∀ (vs : List IV) (tm : Tm) (k : Tm → Option (IV × H)), kparams ps vs tm k = k (setParams tm ps vs) := by
  induction ps with
  | nil => intro vs tm k; cases vs <;> rfl
  | cons p ps ih =>
    intro vs tm k
    cases vs with
    | nil => rfl
    | cons v vs =>
      show ksetT tm p (some v) (fun tm => kparams ps vs tm k) = _
      rw [ksetT_eq, ih]
      rfl
noncomputable def yieldI (r : Rn) (l : Nat) (vs : List IV) (h : H) : Option (IV × H) :=
  match kget h.t l with
  | some (.loop _ _ n tm params assign body _, true) => match Nat.beq vs.length params.length && params.all (fun p => Nat.blt p n) with
    | true => kparams params vs tm fun tm => match r.code (some l) n assign ⟨tm, []⟩ h with
      | some (.normal, fr1, h1) => yieldB r l n body fr1 h1
      | _ => none
    | false => none
  | _ => none

noncomputable def kmk (vs : List IV) : Nat → Tm → (Tm → Option (IV × H)) → Option (IV × H) :=
  List.rec (motive := fun _ => Nat → Tm → (Tm → Option (IV × H)) → Option (IV × H)) (fun _ tm k => k tm)
    (fun v _ ih i tm k => ksetT tm i (some v) fun tm => ih (Nat.succ i) tm k) vs
theorem kmk_eq (vs : List IV) : ∀ (i : Nat) (tm : Tm) (k : Tm → Option (IV × H)), kmk vs i tm k = k (mkTm vs i tm) := by
  induction vs with
  | nil => intro i tm k; rfl
  | cons v vs ih =>
    intro i tm k
    show ksetT tm i (some v) (fun tm => kmk vs (Nat.succ i) tm k) = _
    rw [ksetT_eq, ih]
    rfl

noncomputable def kmarks (ms : List Mk) : Tr (Bx × Bool) → (Tr (Bx × Bool) → Option (IV × H)) → Option (IV × H) :=
  List.rec (motive := fun _ => Tr (Bx × Bool) → (Tr (Bx × Bool) → Option (IV × H)) → Option (IV × H)) (fun t k => k t)
    (fun m _ ih t k => match m with
      | .col r => match kget t r with
        | some (.defs false, true) => ksetT t r none fun t => ih t k
        | _ => none
      | .call .. => none) ms
theorem kmarks_eq (ms : List Mk) : ∀ (t : Tr (Bx × Bool)) (nx : Nat) (k : Tr (Bx × Bool) → Option (IV × H)), kmarks ms t k = withO (takeMarks ms ⟨t, nx⟩) fun h => k h.t := by
  induction ms with
  | nil => intro t nx k; rfl
  | cons m ms ih =>
    intro t nx k
    cases m with
    | call _ _ => rfl
    | col r =>
    show (match kget t r with
      | some (.defs false, true) => ksetT t r none fun t => kmarks ms t k
      | _ => none) = _
    simp only [takeMarks, H.get, kget_eq]
    split
    · simp only [*]
      rw [ksetT_eq, ih _ nx]
      rfl
    · split
      · next h1 _ h2 => exact absurd h2 (by simpa using h1)
      · rfl
noncomputable def kret (T : Tr Ty) (fn : Func) (fr' : Fr) (h' : H) : Option (IV × H) := match fr', h' with
  | ⟨tm, ms⟩, ⟨t, nx⟩ => kmarks ms t fun t => match resI T ⟨t, nx⟩ tm fn.results.toList with
    | some vs => fIV 3 (resV vs) fun v => some (v, ⟨t, nx⟩)
    | none => none
noncomputable def okName (fn : Func) : Bool := fn.name == "runtime.NumGoroutine"
noncomputable def kfun (T : Tr Ty) (r : Rn) (fn : Func) (vs0 : List IV) (h : H) : Option (IV × H) := match okName fn with
  | true => none
  | false => match fn.body with
    | some c => match Nat.ble vs0.length fn.ntmps with
      | true => kmk vs0 0 .leaf fun tm => match r.code none fn.ntmps c ⟨tm, []⟩ h with
        | some (o, fr', h') => match o with
          | .normal => kret T fn fr' h'
          | .ret => kret T fn fr' h'
          | _ => none
        | none => none
      | false => none
    | none => none

/-- Calls that are answered from proved facts. -/
abbrev Short := Nat → List IV → H → Option (IV × H)

/-- Functions without bodies: of plain values alone. -/
def noFn (args : List IV) : Bool := args.all fun v => match v with
  | .func _ _ _ => false
  | _ => true
noncomputable def kext (fn : Func) (args : List IV) (h : H) : Option (IV × H) := match noFn args with
  | true => match kextF fn args h with
    | some (v, h1) => fIV 3 v fun v => match h1 with
      | ⟨t, nx⟩ => fNat nx fun nx => some (v, ⟨t, nx⟩)
    | none => none
  | false => none
noncomputable def kfn (P : Program) (T : Tr Ty) (sc : Short) (r : Rn) (f : Nat) (args : List IV) (h : H) : Option (IV × H) := match sc f args h with
  | some x => some x
  | none => match knth P.funcs.toList f with
    | some fn => match fn.body with
      | some _ => kfun T r fn args h
      | none => kext fn args h
    | none => none
noncomputable def kcl (P : Program) (T : Tr Ty) (sc : Short) (r : Rn) (fv : IV) (args : List IV) (h : H) : Option (IV × H) :=
  match fv with
  | .func g first cap => match g with
    | .func f => kfn P T sc r f (first ++ args ++ cap) h
    | .yield l => match first, cap with
      | [], [] => yieldI r l args h
      | _, _ => none
    | _ => none
  | _ => none

noncomputable def kmach (P : Program) (T : Tr Ty) (sc : Short) (n : Nat) : Rn :=
  Nat.rec (motive := fun _ => Rn) ⟨fun _ _ _ _ _ => none, fun _ _ _ => none⟩ (fun _ r => ⟨fun rd k c fr h => kcode c r T rd k fr h, fun fv args h => kcl P T sc r fv args h⟩) n
end Sx
