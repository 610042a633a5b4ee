/- The ideal machine's operations that touch no memory. -/
import Derived.Test.YtjeakifmlmmpaaaGreatDoorSxMem
import Derived.Laws.Strings
import Derived.Laws.BytesString
import Derived.Laws.IdiomStrings
import Derived.Laws.StructEq
namespace Sx
open Go Go.RowKit
set_option linter.unusedSimpArgs false

/-! ### Constants and operands -/
def ofConst1 : Value → Option IV
  | .bool b => some (.bool b)
  | .int k n => some (.int k n)
  | .string s => some (.str s.data.toList)
  | .pointer none => some .nilptr
  | .slice none 0 0 => some .nilslice
  | .map none => some .nilmap
  | .nilFunc => some .nilfunc
  | .nilIface => some .nilif
  | _ => none

def ofConsts : List Value → Option (List IV)
  | [] => some []
  | v :: vs => match ofConst1 v, ofConsts vs with
    | some x, some xs => some (x :: xs)
    | _, _ => none

def ofConst (v : Value) : Option IV :=
  match v with
  | .agg cs => (ofConsts cs.toList).map .agg
  | .tuple cs => (ofConsts cs.toList).map .tup
  | v => ofConst1 v

theorem ofConst1_den {v : Value} {x : IV} (h : ofConst1 v = some x) : (∀ E, x.den E = v) ∧ x.flat = true := by
  unfold ofConst1 at h
  split at h <;> cases h <;> simp [IV.den, IV.flat]

theorem ofConsts_den : ∀ {l : List Value} {xs : List IV}, ofConsts l = some xs → (∀ E, denL E xs = l) ∧ flatL xs = true
  | [], xs, h => by cases h; simp [denL, flatL]
  | v :: vs, xs, h => by
    simp only [ofConsts] at h
    split at h
    · next x ys hx hys =>
      cases h
      have h1 := ofConst1_den hx
      have h2 := ofConsts_den hys
      exact ⟨fun E => by simp [denL, h1.1 E, h2.1 E], by simp [flatL, h1.2, h2.2]⟩
    · cases h

theorem ofConst_den {v : Value} {x : IV} (h : ofConst v = some x) : (∀ E, x.den E = v) ∧ x.flat = true := by
  unfold ofConst at h
  split at h
  · next cs =>
    cases hc : ofConsts cs.toList with
    | none => rw [hc] at h; cases h
    | some xs =>
      rw [hc] at h
      cases h
      have h2 := ofConsts_den hc
      exact ⟨fun E => by simp [IV.den, h2.1 E], by simp [IV.flat, h2.2]⟩
  · next cs =>
    cases hc : ofConsts cs.toList with
    | none => rw [hc] at h; cases h
    | some xs =>
      rw [hc] at h
      cases h
      have h2 := ofConsts_den hc
      exact ⟨fun E => by simp [IV.den, h2.1 E], by simp [IV.flat, h2.2]⟩
  · exact ofConst1_den h

def evo (tm : Tm) : Operand → Option IV
  | .tmp t => some (tm.tmp t)
  | .const v => ofConst v
  | .func f => some (.func (.func f) [] [])
  | .global _ => none

/-- The frame's temporaries stand for the ideal ones. -/
structure FRel (E : Env) (n : Nat) (ntmps : Nat) (tm : Tm) (a : Act) : Prop where
  size : a.tmps.size = ntmps
  val : ∀ i, a.tmps.getD i undef = (tm.tmp i).den E
  under : ∀ i, (tm.tmp i).under n

theorem FRel.ext {E E' : Env} {h h' : H} {ntmps : Nat} {tm : Tm} {a : Act} (f : FRel E h.next ntmps tm a) (s : Step E h E' h') : FRel E' h'.next ntmps tm a :=
  ⟨f.size, fun i => by rw [f.val, IV.den_ext s.ext _ (f.under i)], fun i => IV.under_mono s.le _ (f.under i)⟩

theorem evo_den {E : Env} {n ntmps : Nat} {tm : Tm} {a : Act} (f : FRel E n ntmps tm a) {o : Operand} {v : IV} (h : evo tm o = some v) : a.eval o = v.den E ∧ v.under n := by
  cases o with
  | tmp t => cases h; exact ⟨f.val t, f.under t⟩
  | const c =>
    have := ofConst_den h
    exact ⟨(this.1 E).symm, IV.under_of_flat _ _ this.2⟩
  | global g => cases h
  | func g => cases h; simp [Act.eval, IV.den, IFn.den, denL, IV.under, IFn.under, underL]

/-! ### Integers -/
def intBinI (op : BinOp) (k : IntKind) (x y : Int) : Option IV :=
  match op with
  | .add => some (.int k (k.wrap (x + y)))
  | .sub => some (.int k (k.wrap (x - y)))
  | .mul => some (.int k (k.wrap (x * y)))
  | .quo => if y = 0 then none else some (.int k (k.wrap (x.tdiv y)))
  | .rem => if y = 0 then none else some (.int k (x.tmod y))
  | .and => some (.int k (k.wrap (BitVec.ofInt k.bits x &&& BitVec.ofInt k.bits y).toNat))
  | .or => some (.int k (k.wrap (BitVec.ofInt k.bits x ||| BitVec.ofInt k.bits y).toNat))
  | .xor => some (.int k (k.wrap (BitVec.ofInt k.bits x ^^^ BitVec.ofInt k.bits y).toNat))
  | .andNot => some (.int k (k.wrap (BitVec.ofInt k.bits x &&& ~~~ BitVec.ofInt k.bits y).toNat))
  | .eql => some (.bool (x == y))
  | .neq => some (.bool (x != y))
  | .lss => some (.bool (decide (x < y)))
  | .leq => some (.bool (decide (x ≤ y)))
  | .gtr => some (.bool (decide (x > y)))
  | .geq => some (.bool (decide (x ≥ y)))
  | _ => none

def shiftI (op : BinOp) (k : IntKind) (x y : Int) : Option IV :=
  if y < 0 then none else
  match op with
  | .shl => some (.int k (k.wrap (x * 2 ^ (min y.toNat k.bits))))
  | .shr => some (.int k (x.fdiv (2 ^ (min y.toNat k.bits))))
  | _ => none

def strBinI (op : BinOp) (x y : List UInt8) : Option IV :=
  match op with
  | .add => if x.length + y.length ≤ 4611686018427387904 then some (.str (x ++ y)) else none
  | .eql => some (.bool (x == y))
  | .neq => some (.bool (!(x == y)))
  | .lss => some (.bool (Op.bytesLess x y))
  | .leq => some (.bool (Op.bytesLess x y || x == y))
  | .gtr => some (.bool (!(Op.bytesLess x y || x == y)))
  | .geq => some (.bool (!(Op.bytesLess x y)))
  | _ => none

def partE (T : Tr Ty) (t : TypeId) (cs : List IV) (off : Nat) : Option IV :=
  match T.get t with
  | some ty => bif aggD ty.d then some (.agg ((cs.drop off).take ty.size)) else cs[off]?
  | none => none

theorem partE_run {P : Program} {T : Tr Ty} (hT : TabOK P T) {E : Env} {t : TypeId} {cs : List IV} {off : Nat} {v : IV} (hp : partE T t cs off = some v) (w : World) :
    (part t (denL E cs).toArray off).run P w = .ok (v.den E) w := by
  unfold partE at hp
  split at hp
  · next ty ht =>
    have hty := hT _ _ ht
    unfold part
    simp only [Sem.run_bind, hty.run_agg, Result.andThen_ok]
    cases ha : aggD ty.d with
    | true =>
      rw [ha] at hp
      simp only [cond_true, Option.some.injEq] at hp
      subst hp
      simp only [if_true, Sem.run_bind, hty.run_size, Result.andThen_ok, Sem.run_pure, IV.den]
      congr 2
      rw [denL_eq, denL_eq]
      apply Array.ext'
      simp [List.map_drop, List.map_take]
    | false =>
      rw [ha] at hp
      simp only [cond_false] at hp
      have : (denL E cs).toArray[off]? = some (v.den E) := by simp [denL_eq, hp]
      simp only [Bool.false_eq_true, if_false, this, Sem.run_pure]
  · cases hp

def eqFs (g : TypeId → IV → IV → Option Bool) (T : Tr Ty) (xs ys : List IV) : List Field → Option Bool
  | [] => some true
  | f :: fs => if f.name ≠ "_" then
      (match partE T f.type xs f.offset, partE T f.type ys f.offset with
      | some a, some b => match g f.type a b with
        | some true => eqFs g T xs ys fs
        | some false => some false
        | none => none
      | _, _ => none)
    else eqFs g T xs ys fs

theorem eqFs_run {P : Program} {T : Tr Ty} (hT : TabOK P T) {E : Env} {w : World} {d : Nat} {g : TypeId → IV → IV → Option Bool}
    (hg : ∀ t a b r, g t a b = some r → (Op.equalIn d t (a.den E) (b.den E)).run P w = .ok r w) {xs ys : List IV} : ∀ {fs : List Field} {r : Bool}, eqFs g T xs ys fs = some r →
    (Op.eqFields d (denL E xs).toArray (denL E ys).toArray fs).run P w = .ok r w
  | [], r, h => by cases h; simp [Op.eqFields]
  | f :: fs, r, h => by
    simp only [eqFs] at h
    unfold Op.eqFields
    split at h
    · next hn =>
      rw [if_pos hn]
      split at h
      · next a b ha hb =>
        simp only [Sem.run_bind, partE_run hT ha, partE_run hT hb, Result.andThen_ok]
        split at h
        · next he =>
          simp only [hg _ _ _ _ he, Result.andThen_ok, Bool.not_true, Bool.false_eq_true, if_false]
          exact eqFs_run hT hg h
        · next he =>
          cases h
          simp only [hg _ _ _ _ he, Result.andThen_ok, Bool.not_false, if_true, Sem.run_pure]
        · cases h
      · cases h
    · next hn =>
      rw [if_neg hn]
      exact eqFs_run hT hg h

/-- Equality, of what needs no memory. -/
def eqI (T : Tr Ty) : Nat → TypeId → IV → IV → Option Bool
  | 0, _, _, _ => none
  | n + 1, t, x, y =>
    match T.get t with
    | none => none
    | some ty =>
      match ty.d, x, y with
      | .bool, .bool a, .bool b => some (a == b)
      | .int _, .int k a, .int k' b => if k = k' then some (a == b) else none
      | .string, .str a, .str b => some (a == b)
      | .pointer _, .nilptr, .nilptr => some true
      | .pointer _, .nilptr, .ptr _ _ => some false
      | .pointer _, .ptr _ _, .nilptr => some false
      | .interface _, .nilif, .nilif => some true
      | .interface _, .nilif, .iface _ _ => some false
      | .interface _, .iface _ _, .nilif => some false
      | .interface _, .iface tx _, .iface ty _ => if tx ≠ ty then some false else none
      | .slice _, .nilslice, .nilslice => some true
      | .slice _, .nilslice, .slice _ _ _ _ => some false
      | .slice _, .slice _ _ _ _, .nilslice => some false
      | .map _ _, .nilmap, .nilmap => some true
      | .map _ _, .nilmap, .map _ => some false
      | .map _ _, .map _, .nilmap => some false
      | .func _ _ _, .nilfunc, .nilfunc => some true
      | .func _ _ _, .nilfunc, .func _ _ _ => some false
      | .func _ _ _, .func _ _ _, .nilfunc => some false
      | .struct fs, .agg xs, .agg ys => bif ty.eqok then eqFs (fun t a b => eqI T n t a b) T xs ys fs.toList else none
      | _, _, _ => none

def isConst : Operand → Bool
  | .const _ => true
  | _ => false

def binI (T : Tr Ty) (op : BinOp) (t : TypeId) (x y : Operand) (a b : IV) : Option IV :=
  match a, b with
  | .int k m, .int k' n =>
    match op with
    | .shl => shiftI .shl k m n
    | .shr => shiftI .shr k m n
    | op => if k = k' then intBinI op k m n else none
  | .str s, .str u => strBinI op s u
  | .nilif, .nilif => if isConst x || isConst y then (match op with
      | .eql => (eqI T 9 t .nilif .nilif).map .bool
      | .neq => (eqI T 9 t .nilif .nilif).map fun b => .bool (!b)
      | _ => none) else none
  | .agg xs, .agg ys => match T.get t with
    | none => none
    | some ty => bif ty.eqok then (match op with
      | .eql => (eqI T 9 t (.agg xs) (.agg ys)).map .bool
      | .neq => (eqI T 9 t (.agg xs) (.agg ys)).map fun b => .bool (!b)
      | _ => none) else none
  | a, b => match op with
    | .eql => (eqI T 9 t a b).map .bool
    | .neq => (eqI T 9 t a b).map fun b => .bool (!b)
    | _ => none

theorem beqMk (x y : List UInt8) : ((ByteArray.mk x.toArray) == (ByteArray.mk y.toArray)) = (x == y) := by
  rw [beq_toListBytes, ByteArray.toList_mk, ByteArray.toList_mk]

theorem eqI_run {P : Program} {T : Tr Ty} (hT : TabOK P T) (E : Env) (w : World) : ∀ (f d : Nat) (t : TypeId) (x y : IV) (b : Bool), f ≤ d → eqI T f t x y = some b →
    (Op.equalIn d t (x.den E) (y.den E)).run P w = .ok b w := by
  intro f
  induction f with
  | zero => intro d t x y b _ h; simp [eqI] at h
  | succ f ih =>
    intro d t x y b hd h
    obtain ⟨d, rfl⟩ : ∃ k, d = k + 1 := ⟨d - 1, by omega⟩
    simp only [eqI] at h
    cases ht : T.get t with
    | none => rw [ht] at h; cases h
    | some ty =>
      rw [ht] at h
      have hu := (hT t ty ht).und
      simp only at h
      split at h <;> first
        | (rename_i fs xs ys hdesc
           rw [hdesc] at hu
           have hf : P.fieldsOf t = fs := by simp [Program.fieldsOf, hu]
           cases hq : ty.eqok with
           | false => rw [hq] at h; cases h
           | true =>
             rw [hq] at h
             simp only [cond_true] at h
             simp only [IV.den]
             rw [run_equalIn_struct w d t _ _ (by rw [hf]; exact hu) ((hT t ty ht).eq hq).1, hf]
             exact eqFs_run hT (fun t a b r hr => ih d t a b r (by omega) hr) h)
        | (rename_i hdesc; rw [hdesc] at hu; cases h; rw [Op.equalIn]; simp only [Sem.run_bind, run_underlying hu, Result.andThen_ok, IV.den]; rfl)
        | (rename_i hdesc; rw [hdesc] at hu; cases h; rw [Op.equalIn]; simp only [Sem.run_bind, run_underlying hu, Result.andThen_ok, IV.den, beqMk, Sem.run_pure]; done)
        | (rename_i hdesc; rw [hdesc] at hu; split at h <;> cases h; rename_i hk; rw [Op.equalIn]; simp only [Sem.run_bind, run_underlying hu, Result.andThen_ok, IV.den, hk, if_true, ne_eq, not_false_eq_true, Sem.run_pure]; done)
        | cases h

theorem intBinI_run {P : Program} (E : Env) (w : World) (T' : TypeId) (op : BinOp) (k k' : IntKind) (m n : Int) (v : IV) (hk : k = k') (hop : op ≠ .shl ∧ op ≠ .shr)
    (h : intBinI op k m n = some v) : (binOp op T' (.int k m) (.int k' n)).run P w = .ok (v.den E) w ∧ ∀ j, v.under j := by
  subst hk
  cases op <;> simp only [intBinI] at h <;> first
    | (cases h; simp [binOp, Op.intArith, Op.intBits, Op.intCmp, IV.den, IV.under]; done)
    | (split at h <;> cases h; rename_i hy; simp [binOp, Op.intDiv, hy, IV.den, IV.under]; done)
    | simp at hop
    | cases h

theorem shiftI_run {P : Program} (E : Env) (w : World) (T' : TypeId) (op : BinOp) (k k' : IntKind) (m n : Int) (v : IV) (hop : op = .shl ∨ op = .shr)
    (h : shiftI op k m n = some v) : (binOp op T' (.int k m) (.int k' n)).run P w = .ok (v.den E) w ∧ ∀ j, v.under j := by
  unfold shiftI at h
  split at h
  · cases h
  · next hn =>
    rcases hop with rfl | rfl <;> (cases h; simp [binOp, Op.shift, hn, IV.den, IV.under])

theorem strBinI_run {P : Program} (E : Env) (w : World) (T' : TypeId) (op : BinOp) (x y : List UInt8) (v : IV)
    (h : strBinI op x y = some v) : (binOp op T' (.string ⟨x.toArray⟩) (.string ⟨y.toArray⟩)).run P w = .ok (v.den E) w ∧ ∀ j, v.under j := by
  cases op <;> simp only [strBinI] at h <;> first
    | (cases h; simp [binOp, Op.stringOp, IV.den, IV.under, ByteArray.toList_mk]; done)
    | (split at h <;> cases h
       rename_i hl
       have hs : ∀ l : List UInt8, (ByteArray.mk l.toArray).size = l.length := fun l => by simp [ByteArray.size]
       have hn : ¬ (IntKind.i64.max < ((x.length : Int) + (y.length : Int))) := by
         have : IntKind.i64.max = 9223372036854775807 := by decide
         omega
       have hcat : (ByteArray.mk x.toArray ++ ByteArray.mk y.toArray) = ByteArray.mk (x ++ y).toArray := by
         apply ByteArray.ext; simp
       simp [binOp, Op.stringOp, hs, hn, hcat, IV.den, IV.under]; omega)
    | cases h

theorem eqGuard_run {P : Program} (w : World) (op : BinOp) (t : TypeId) (x y : Operand) (a b : Value)
    (h1 : a = .nilIface → b = .nilIface → (isConst x || isConst y) = true) (h2 : ∀ c d, a = .agg c → b = .agg d → False) :
    (eqGuard op t x y a b).run P w = .ok () w := by
  cases op <;> first
    | (simp [eqGuard]; done)
    | (unfold eqGuard
       simp only [Bool.not_true, Bool.false_eq_true, if_false]
       cases a <;> cases b <;> first
         | rfl
         | (exact absurd (h2 _ _ rfl rfl) id)
         | (have := h1 rfl rfl
            cases x <;> cases y <;> first | rfl | (simp [isConst] at this)))

theorem binI_run {P : Program} {T : Tr Ty} (hT : TabOK P T) (E : Env) (w : World) (op : BinOp) (t : TypeId) (x y : Operand) (a b v : IV) (h : binI T op t x y a b = some v) :
    (do eqGuard op t x y (a.den E) (b.den E); binOp op t (a.den E) (b.den E) : Sem Value).run P w = .ok (v.den E) w ∧ ∀ j, v.under j := by
  have heq : ∀ (a b : IV) (r : Bool), eqI T 9 t a b = some r → (Op.equal t (a.den E) (b.den E)).run P w = .ok r w := fun a b r hr =>
    eqI_run hT E w 9 10000 t a b r (by omega) hr
  unfold binI at h
  split at h
  · next k m k' n =>
    have hg : (eqGuard op t x y (IV.den E (.int k m)) (IV.den E (.int k' n))).run P w = .ok () w := eqGuard_run w _ _ _ _ _ _ (by simp [IV.den]) (by simp [IV.den])
    simp only [Sem.run_bind, hg, Result.andThen_ok]
    split at h
    · exact shiftI_run E w t _ k k' m n v (.inl rfl) h
    · exact shiftI_run E w t _ k k' m n v (.inr rfl) h
    · next h1 h2 =>
      split at h
      · next hk => exact intBinI_run E w t op k k' m n v hk ⟨h1, h2⟩ h
      · cases h
  · next s u =>
    have hg : (eqGuard op t x y (IV.den E (.str s)) (IV.den E (.str u))).run P w = .ok () w := eqGuard_run w _ _ _ _ _ _ (by simp [IV.den]) (by simp [IV.den])
    simp only [Sem.run_bind, hg, Result.andThen_ok]
    exact strBinI_run E w t op s u v h
  · split at h
    · next hc =>
      have hg : (eqGuard op t x y (IV.den E .nilif) (IV.den E .nilif)).run P w = .ok () w := eqGuard_run w _ _ _ _ _ _ (fun _ _ => hc) (by simp [IV.den])
      simp only [Sem.run_bind, hg, Result.andThen_ok]
      split at h
      · cases hq : eqI T 9 t .nilif .nilif with
        | none => rw [hq] at h; cases h
        | some r =>
          rw [hq] at h; cases h
          have := heq _ _ _ hq
          simp only [IV.den] at this
          simp [binOp, IV.den, IV.under, this]
      · cases hq : eqI T 9 t .nilif .nilif with
        | none => rw [hq] at h; cases h
        | some r =>
          rw [hq] at h; cases h
          have := heq _ _ _ hq
          simp only [IV.den] at this
          simp [binOp, IV.den, IV.under, this]
      · cases h
    · cases h
  · next xs ys =>
    split at h
    · cases h
    · next ty ht =>
      cases hq : ty.eqok with
      | false => rw [hq] at h; cases h
      | true =>
        rw [hq] at h
        simp only [cond_true] at h
        have hg := ((hT t ty ht).eq hq).2
        split at h
        · cases hr : eqI T 9 t (.agg xs) (.agg ys) with
          | none => rw [hr] at h; cases h
          | some r =>
            rw [hr] at h; cases h
            have := heq _ _ _ hr
            simp only [IV.den] at this
            simp [eqGuard, hg, binOp, IV.den, IV.under, this]
        · cases hr : eqI T 9 t (.agg xs) (.agg ys) with
          | none => rw [hr] at h; cases h
          | some r =>
            rw [hr] at h; cases h
            have := heq _ _ _ hr
            simp only [IV.den] at this
            simp [eqGuard, hg, binOp, IV.den, IV.under, this]
        · cases h
  · next n1 n2 n3 n4 =>
    have hg : (eqGuard op t x y (a.den E) (b.den E)).run P w = .ok () w := by
      refine eqGuard_run w _ _ _ _ _ _ (fun ha hb => ?_) (fun c d ha hb => ?_)
      · cases a <;> simp [IV.den] at ha
        cases b <;> simp [IV.den] at hb
        exact absurd rfl (fun e => n3 e rfl)
      · cases a <;> simp [IV.den] at ha
        cases b <;> simp [IV.den] at hb
        exact n4 _ _ rfl rfl
    simp only [Sem.run_bind, hg, Result.andThen_ok]
    have hb : ∀ op', (op' = .eql ∨ op' = .neq) → binOp op' t (a.den E) (b.den E) = (match op' with | .eql => do pure (.bool (← Op.equal t (a.den E) (b.den E))) | _ => do pure (.bool (!(← Op.equal t (a.den E) (b.den E))))) := by
      intro op' ho
      rcases ho with rfl | rfl <;> cases a <;> cases b <;> first | rfl | exact absurd rfl (n1 _ _ _ _ rfl) | exact absurd rfl (n2 _ _ rfl)
    split at h
    · cases hq : eqI T 9 t a b with
      | none => rw [hq] at h; cases h
      | some r =>
        rw [hq] at h; cases h
        rw [hb .eql (.inl rfl)]
        simp [heq _ _ _ hq, IV.den, IV.under]
    · cases hq : eqI T 9 t a b with
      | none => rw [hq] at h; cases h
      | some r =>
        rw [hq] at h; cases h
        rw [hb .neq (.inr rfl)]
        simp [heq _ _ _ hq, IV.den, IV.under]
    · cases h

def unI (op : UnOp) (x : IV) : Option IV :=
  match op, x with
  | .neg, .int k n => some (.int k (k.wrap (0 - n)))
  | .xor, .int k n => some (.int k (k.wrap (BitVec.ofInt k.bits (if k.signed then -1 else k.max) ^^^ BitVec.ofInt k.bits n).toNat))
  | .not, .bool b => some (.bool (!b))
  | _, _ => none

theorem unI_run {P : Program} (E : Env) (w : World) (op : UnOp) (x v : IV) (h : unI op x = some v) : (Op.unary op (x.den E)).run P w = .ok (v.den E) w ∧ ∀ j, v.under j := by
  unfold unI at h
  split at h <;> cases h <;> simp [Op.unary, Op.intArith, Op.intBits, IV.den, IV.under]

end Sx
