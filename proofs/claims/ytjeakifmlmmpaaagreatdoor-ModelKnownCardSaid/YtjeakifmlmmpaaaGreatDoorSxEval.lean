/- The evaluator, fit for the kernel. -/
import Derived.Test.YtjeakifmlmmpaaaGreatDoorSxFast
namespace Sx
open Go Go.RowKit
set_option linter.unusedSimpArgs false

structure Rn where
  code : Option Nat → Nat → Code → Fr → H → Option (Out × Fr × H)
  cl : IV → List IV → H → Option (IV × H)

section
variable {β : Type}

noncomputable def knth {α : Type} (l : List α) : Nat → Option α :=
  List.rec (motive := fun _ => Nat → Option α) (fun _ => none) (fun a _ ih n => Nat.casesOn (motive := fun _ => Option α) n (some a) ih) l
theorem knth_eq {α : Type} (l : List α) : ∀ n, knth l n = l[n]? := by
  induction l with
  | nil => intro n; rfl
  | cons a l ih =>
    intro n
    cases n with
    | zero => rfl
    | succ n => exact (ih n).trans (by simp)

def withO {α : Type} (o : Option α) (k : α → Option β) : Option β := match o with
  | some a => k a
  | none => none

noncomputable def kconst (v : Value) (k : IV → Option β) : Option β := match v with
  | .bool b => k (.bool b)
  | .int kd n => fInt n fun n => k (.int kd n)
  | v => withO (ofConst v) k

theorem kconst_eq (v : Value) (k : IV → Option β) : kconst v k = withO (ofConst v) k := by
  cases v <;> first | rfl | (simp only [kconst, fInt_eq]; rfl)

noncomputable def kevTmp (t : Nat) (tm : Tm) (k : IV → Option β) : Option β := match kget tm t with
  | some v => k v
  | none => k undefI
noncomputable def kev (o : Operand) : Tm → (IV → Option β) → Option β := match o with
  | .tmp t => kevTmp t
  | .const v => fun _ => kconst v
  | .func f => fun _ k => k (.func (.func f) [] [])
  | .global _ => fun _ _ => none
theorem kev_eq (o : Operand) (tm : Tm) (k : IV → Option β) : kev o tm k = withO (evo tm o) k := by
  cases o with
  | tmp t =>
    show kevTmp t tm k = _
    simp only [kevTmp, kget_eq, evo, withO, Tr.tmp]
    cases tm.get t <;> rfl
  | const v => exact kconst_eq v k
  | func f => rfl
  | global g => rfl

noncomputable def kevs (l : List Operand) : Tm → (List IV → Option β) → Option β :=
  List.rec (motive := fun _ => Tm → (List IV → Option β) → Option β) (fun _ k => k []) (fun o _ ih tm k => kev o tm fun v => ih tm fun vs => k (v :: vs)) l
theorem kevs_eq (l : List Operand) (tm : Tm) : ∀ (k : List IV → Option β), kevs l tm k = withO (evos tm l) k := by
  induction l with
  | nil => intro k; rfl
  | cons o l ih =>
    intro k
    show kev o tm (fun v => kevs l tm fun vs => k (v :: vs)) = _
    rw [kev_eq]
    simp only [evos, ih]
    cases evo tm o <;> cases evos tm l <;> rfl

/-! ### Operations -/
def opS (op : Op) (r : Rn) (T : Tr Ty) (tm : Tm) (h : H) (k : IV → H → Option β) : Option β :=
  match iop T tm h op with
  | some (v, h1) => k v h1
  | none => match op with
    | .call c => match c.callee with
      | .value fo => withO (evo tm fo) fun fv => withO (evos tm c.args.toList) fun vs => withO (r.cl fv vs h) fun x => k x.1 x.2
      | _ => none
    | _ => none

abbrev KOp (β : Type) := Rn → Tr Ty → Tm → H → (IV → H → Option β) → Option β

def blk (v : IV) (l : List Nat) : List Nat := match v with
  | .ptr b _ => b :: l
  | .slice b _ _ _ => b :: l
  | .map b => b :: l
  | _ => l
def blks (tm : Tm) : List Operand → List Nat → List Nat
  | [], l => l
  | .tmp t :: os, l => blks tm os (blk (tm.tmp t) l)
  | _ :: os, l => blks tm os l
noncomputable def fBx {γ : Type} (o : Bx) (k : Bx → γ) : γ := match o with
  | .cells cs e => fList (fIV 2) cs fun cs => k (.cells cs e)
  | .map es c => fNat c fun c => fList (fun (x : IV × IV × Nat) k => match x with | (a, b, n) => fIV 2 a fun a => fIV 2 b fun b => fNat n fun n => k (a, b, n)) es fun es => k (.map es c)
  | o => k o
theorem fIO_eq {γ : Type} (o : Bx) (k : Bx → γ) : fBx o k = k o := by
  cases o with
  | cells cs e => exact fList_eq (fIV_eq 2) _ _
  | map es c =>
    simp only [fBx]
    rw [fNat_eq]
    exact fList_eq (fun x k => by obtain ⟨a, b, n⟩ := x; simp only [fIV_eq, fNat_eq]) _ _
  | _ => rfl
noncomputable def fEnt {γ : Type} (v : Option (Bx × Bool)) (k : Option (Bx × Bool) → γ) : γ := match v with
  | none => k none
  | some (o, b) => fBool b fun b => fBx o fun o => k (some (o, b))
theorem fEnt_eq {γ : Type} (v : Option (Bx × Bool)) (k : Option (Bx × Bool) → γ) : fEnt v k = k v := by
  cases v with
  | none => rfl
  | some x => obtain ⟨o, b⟩ := x; simp only [fEnt, fBool_eq, fIO_eq]
/-- The path to n in normal form. -/
noncomputable def fPath {γ : Type} (f : Nat) : Tr (Bx × Bool) → Nat → (Tr (Bx × Bool) → γ) → γ :=
  Nat.rec (motive := fun _ => Tr (Bx × Bool) → Nat → (Tr (Bx × Bool) → γ) → γ) (fun t _ k => k t)
    (fun _ ih t n k => Tr.casesOn (motive := fun _ => γ) t (k .leaf) (fun l r v =>
      bif Nat.beq n 0 then fEnt v fun v => k (.node l r v) else
        bif Nat.beq (Nat.mod n 2) 1 then ih l (Nat.div n 2) (fun l => k (.node l r v)) else ih r (Nat.sub (Nat.div n 2) 1) (fun r => k (.node l r v)))) f
theorem fPath_eq {γ : Type} : ∀ (f : Nat) (t : Tr (Bx × Bool)) (n : Nat) (k : Tr (Bx × Bool) → γ), fPath f t n k = k t := by
  intro f
  induction f with
  | zero => intro t n k; rfl
  | succ f ih =>
    intro t n k
    cases t with
    | leaf => rfl
    | node l r v =>
      show (bif Nat.beq n 0 then fEnt v fun v => k (.node l r v) else
        bif Nat.beq (Nat.mod n 2) 1 then fPath f l (Nat.div n 2) (fun l => k (.node l r v)) else fPath f r (Nat.sub (Nat.div n 2) 1) (fun r => k (.node l r v))) = _
      rw [fEnt_eq, ih, ih]
      cases Nat.beq n 0 <;> cases Nat.beq (Nat.mod n 2) 1 <;> rfl
noncomputable def fPaths {γ : Type} (l : List Nat) : Tr (Bx × Bool) → (Tr (Bx × Bool) → γ) → γ :=
  List.rec (motive := fun _ => Tr (Bx × Bool) → (Tr (Bx × Bool) → γ) → γ) (fun t k => k t) (fun n _ ih t k => fPath (Nat.succ n) t n fun t => ih t k) l
theorem fPaths_eq {γ : Type} (l : List Nat) : ∀ (t : Tr (Bx × Bool)) (k : Tr (Bx × Bool) → γ), fPaths l t k = k t := by
  induction l with
  | nil => intro t k; rfl
  | cons n l ih =>
    intro t k
    show fPath (Nat.succ n) t n (fun t => fPaths l t k) = _
    rw [fPath_eq, ih]
noncomputable def fHeap {γ : Type} (bs : List Nat) (h : H) (k : H → γ) : γ := match h with
  | ⟨t, n⟩ => fNat n fun n => fPaths (Nat.sub n 1 :: bs) t fun t => k ⟨t, n⟩
theorem fHeap_eq {γ : Type} (bs : List Nat) (h : H) (k : H → γ) : fHeap bs h k = k h := by
  obtain ⟨t, n⟩ := h
  simp only [fHeap, fNat_eq, fPaths_eq]

def sameH (op : Op) : Bool := match op with
  | .alloc _ | .box .. | .buildSlice .. | .makeMap .. | .makeSlice .. | .mapUpdate .. | .insert .. | .range .. | .next .. | .convert .. => false
  | .call c => match c.callee with
    | .builtin .len | .builtin .cap | .builtin .min | .builtin .max => true
    | _ => false
  | _ => true
noncomputable def kFall (op : Op) : KOp β := fun _ T tm h k => match iop T tm h op with
  | some (v, h1) => match sameH op with
    | true => fIV 3 v fun v => k v h1
    | false => fIV 3 v fun v => fHeap (blks tm op.operands.toList []) h1 fun h1 => k v h1
  | none => none
noncomputable def kMove (x : Operand) : KOp β := fun _ _ tm h k => kev x tm fun v => k v h
noncomputable def kPick (c a b : Operand) : KOp β := fun _ _ tm h k => kev c tm fun v => match v with
  | .bool true => kev a tm fun v => k v h
  | .bool false => kev b tm fun v => k v h
  | _ => none

def kkEq (a b : IntKind) : Bool := match a with
  | .i64 => match b with
    | .i64 => true
    | _ => false
  | a => decide (a = b)
theorem kkEq_eq (a b : IntKind) : kkEq a b = decide (a = b) := by
  cases a <;> first | rfl | (cases b <;> rfl)

noncomputable def kAr (f : Int → Int → Int) (kd kd' : IntKind) (m n : Int) (h : H) (k : IV → H → Option β) : Option β :=
  match kkEq kd kd' with
  | true => fInt (kwrap kd (f m n)) fun n => k (.int kd n) h
  | false => none
noncomputable def kCmp (f : Int → Int → Bool) (kd kd' : IntKind) (m n : Int) (h : H) (k : IV → H → Option β) : Option β :=
  match kkEq kd kd' with
  | true => fBool (f m n) fun b => k (.bool b) h
  | false => none
noncomputable def kIntF (op : BinOp) (kd kd' : IntKind) (m n : Int) (h : H) (k : IV → H → Option β) : Option β :=
  match binI .leaf op 0 (.tmp 0) (.tmp 0) (.int kd m) (.int kd' n) with
  | some v => fIV 1 v fun v => k v h
  | none => none
noncomputable def kInt (op : BinOp) : IntKind → IntKind → Int → Int → H → (IV → H → Option β) → Option β := match op with
  | .add => kAr Int.add
  | .sub => kAr Int.sub
  | .mul => kAr Int.mul
  | .eql => kCmp keq
  | .neq => kCmp fun x y => !(keq x y)
  | .lss => kCmp klt
  | .leq => kCmp fun x y => !(klt y x)
  | .gtr => kCmp fun x y => klt y x
  | .geq => kCmp fun x y => !(klt x y)
  | op => kIntF op

theorem kIntF_eq (op : BinOp) (T : Tr Ty) (t : TypeId) (x y : Operand) (kd kd' : IntKind) (m n : Int) (h : H) (k : IV → H → Option β) :
    kIntF op kd kd' m n h k = withO (binI T op t x y (.int kd m) (.int kd' n)) fun v => k v h := by
  have : binI .leaf op 0 (.tmp 0) (.tmp 0) (.int kd m) (.int kd' n) = binI T op t x y (.int kd m) (.int kd' n) := by cases op <;> rfl
  unfold kIntF
  rw [this]
  cases binI T op t x y (.int kd m) (.int kd' n) with
  | none => rfl
  | some v => exact fIV_eq 1 v fun v => k v h

theorem kAr_eq (f : Int → Int → Int) (kd kd' : IntKind) (m n : Int) (h : H) (k : IV → H → Option β) :
    kAr f kd kd' m n h k = withO (if kd = kd' then some (.int kd (kd.wrap (f m n))) else none) fun v => k v h := by
  unfold kAr
  rw [kkEq_eq]
  by_cases e : kd = kd'
  · rw [if_pos e, decide_eq_true e, kwrap_eq]
    exact fInt_eq _ _
  · rw [if_neg e, decide_eq_false e]; rfl
theorem kCmp_eq (f : Int → Int → Bool) (kd kd' : IntKind) (m n : Int) (h : H) (k : IV → H → Option β) :
    kCmp f kd kd' m n h k = withO (if kd = kd' then some (.bool (f m n)) else none) fun v => k v h := by
  unfold kCmp
  rw [kkEq_eq]
  by_cases e : kd = kd'
  · rw [if_pos e, decide_eq_true e]
    exact fBool_eq _ _
  · rw [if_neg e, decide_eq_false e]; rfl

theorem kInt_eq (op : BinOp) (T : Tr Ty) (t : TypeId) (x y : Operand) (kd kd' : IntKind) (m n : Int) (h : H) (k : IV → H → Option β) :
    kInt op kd kd' m n h k = withO (binI T op t x y (.int kd m) (.int kd' n)) fun v => k v h := by
  have e1 : ∀ a b : Int, (!(klt a b)) = decide (b ≤ a) := fun a b => by
    rw [klt_eq, ← decide_not, decide_eq_decide]; omega
  cases op <;> first
    | exact kIntF_eq _ T t x y _ _ _ _ _ _
    | exact kAr_eq _ _ _ _ _ _ _
    | skip
  · refine (kCmp_eq _ _ _ _ _ _ _).trans ?_
    rw [keq_eq]; rfl
  · refine (kCmp_eq (fun x y => !(keq x y)) _ _ _ _ _ _).trans ?_
    simp only [keq_eq]; rfl
  · refine (kCmp_eq _ _ _ _ _ _ _).trans ?_
    rw [klt_eq]; rfl
  · refine (kCmp_eq (fun x y => !(klt y x)) _ _ _ _ _ _).trans ?_
    simp only [e1]; rfl
  · refine (kCmp_eq (fun x y => klt y x) _ _ _ _ _ _).trans ?_
    simp only [klt_eq]; rfl
  · refine (kCmp_eq (fun x y => !(klt x y)) _ _ _ _ _ _).trans ?_
    simp only [e1]; rfl

noncomputable def kBinF (op : BinOp) (t : TypeId) (x y : Operand) (a b : IV) (T : Tr Ty) (h : H) (k : IV → H → Option β) : Option β :=
  match binI T op t x y a b with
  | some v => fIV 1 v fun v => k v h
  | none => none
theorem kBinF_eq (op : BinOp) (t : TypeId) (x y : Operand) (a b : IV) (T : Tr Ty) (h : H) (k : IV → H → Option β) :
    kBinF op t x y a b T h k = withO (binI T op t x y a b) fun v => k v h := by
  unfold kBinF
  cases binI T op t x y a b with
  | none => rfl
  | some v => exact fIV_eq 1 v fun v => k v h
noncomputable def kBinI (op : BinOp) (t : TypeId) (x y : Operand) (kd : IntKind) (m : Int) (b : IV) : Tr Ty → H → (IV → H → Option β) → Option β := match b with
  | .int kd' n => fun _ => kInt op kd kd' m n
  | b => kBinF op t x y (.int kd m) b
noncomputable def kBin2 (op : BinOp) (t : TypeId) (x y : Operand) (a : IV) : IV → Tr Ty → H → (IV → H → Option β) → Option β := match a with
  | .int kd m => kBinI op t x y kd m
  | a => kBinF op t x y a
noncomputable def kBin (op : BinOp) (t : TypeId) (x y : Operand) : KOp β := fun _ T tm h k => kev x tm fun a => kev y tm fun b => kBin2 op t x y a b T h k
theorem kBin2_eq (op : BinOp) (t : TypeId) (x y : Operand) (a b : IV) (T : Tr Ty) (h : H) (k : IV → H → Option β) :
    kBin2 op t x y a b T h k = withO (binI T op t x y a b) fun v => k v h := by
  cases a with
  | int kd m =>
    cases b with
    | int kd' n => exact kInt_eq op T t x y kd kd' m n h k
    | _ => exact kBinF_eq ..
  | _ => exact kBinF_eq ..

noncomputable def kLoad2 (ty : Ty) (b o : Nat) (h : H) (k : IV → H → Option β) : Option β := match kget h.t b with
  | some (.cells cs _, _) => match aggD ty.d with
    | true => match Nat.ble (Nat.add o ty.size) cs.length with
      | true => fIV 2 (.agg ((cs.drop o).take ty.size)) fun v => k v h
      | false => none
    | false => match knth cs o with
      | some v => k v h
      | none => none
  | some (.ro off cs, _) => withO (bif aggD ty.d then (bif Nat.ble off o && Nat.ble (o - off + ty.size) cs.length then some (.agg ((cs.drop (o - off)).take ty.size)) else none) else bif Nat.ble off o then cs[o - off]? else none) fun v => k v h
  | _ => none
noncomputable def kLoad (t : TypeId) (a : Operand) : KOp β := fun _ T tm h k => kev a tm fun v => match v with
  | .ptr b o => match kget T t with
    | some ty => kLoad2 ty b o h k
    | none => none
  | _ => none
theorem kLoad2_eq (ty : Ty) (b o : Nat) (h : H) (k : IV → H → Option β) : kLoad2 ty b o h k = withO (loadI h (aggD ty.d) ty.size b o) fun v => k v h := by
  unfold kLoad2 loadI
  rw [kget_eq]
  show (match h.t.get b with | some (.cells cs _, _) => _ | some (.ro off cs, _) => _ | _ => none) = withO (match h.t.get b with | some (.cells cs _, _) => _ | some (.ro off cs, _) => _ | _ => none) _
  cases h.t.get b with
  | none => rfl
  | some x =>
    obtain ⟨o', w⟩ := x
    cases o' with
    | cells cs e =>
      simp only
      cases aggD ty.d with
      | true =>
        simp only [cond_true]
        show (match Nat.ble (o + ty.size) cs.length with | true => _ | false => none) = _
        cases Nat.ble (o + ty.size) cs.length with
        | true => exact fIV_eq 2 _ fun v => k v h
        | false => rfl
      | false =>
        simp only [cond_false, knth_eq]
        cases cs[o]? <;> rfl
    | ro off cs => rfl
    | _ => rfl

noncomputable def kStore2 (ty : Ty) (b o : Nat) (v : IV) (h : H) (k : IV → H → Option β) : Option β := match kget h.t b with
  | some (.cells cs e, true) => match Nat.beq v.cells.length ty.size && v.cells.all IV.one && Nat.ble (Nat.add o ty.size) cs.length with
    | true => fList (fun a k => k a) (splice cs o v.cells) fun cs => match h with
      | ⟨t, n⟩ => ksetT t b (some (.cells cs e, true)) fun t => k undefI ⟨t, n⟩
    | false => none
  | _ => none
noncomputable def kStore (t : TypeId) (a x : Operand) : KOp β := fun _ T tm h k => kev a tm fun p => kev x tm fun v => match p with
  | .ptr b o => match kget T t with
    | some ty => kStore2 ty b o v h k
    | none => none
  | _ => none
theorem kStore2_eq (ty : Ty) (b o : Nat) (v : IV) (h : H) (k : IV → H → Option β) : kStore2 ty b o v h k = withO (storeI h ty.size b o v) fun h' => k undefI h' := by
  unfold kStore2 storeI
  rw [kget_eq]
  show (match h.t.get b with | some (.cells cs e, true) => _ | _ => none) = withO (match h.t.get b with | some (.cells cs e, true) => _ | _ => none) _
  cases h.t.get b with
  | none => rfl
  | some x =>
    obtain ⟨o', w⟩ := x
    cases o' with
    | cells cs e =>
      cases w with
      | false => rfl
      | true =>
        simp only
        show (match Nat.beq v.cells.length ty.size && v.cells.all IV.one && Nat.ble (o + ty.size) cs.length with | true => _ | false => none) = _
        cases (Nat.beq v.cells.length ty.size && v.cells.all IV.one && Nat.ble (o + ty.size) cs.length) with
        | true =>
          refine (fList_eq (fun _ _ => rfl) _ _).trans ?_
          rw [ksetT_eq]
          rfl
        | false => rfl
    | _ => rfl

noncomputable def kIx (n : Nat) (sz b o : Nat) (i : Int) (h : H) (k : IV → H → Option β) : Option β :=
  Int.casesOn (motive := fun _ => Option β) i (fun j => match Nat.ble (Nat.succ j) n with
    | true => fNat (Nat.add o (Nat.mul j sz)) fun o => k (.ptr b o) h
    | false => none) (fun _ => none)
theorem kIx_eq (n sz b o : Nat) (i : Int) (h : H) (k : IV → H → Option β) : kIx n sz b o i h k = withO (if 0 ≤ i ∧ i < (n : Int) then some (.ptr b (o + i.toNat * sz)) else none) fun v => k v h := by
  cases i with
  | negSucc j => rw [if_neg (by omega)]; rfl
  | ofNat j =>
    show (match Nat.ble (Nat.succ j) n with | true => _ | false => none) = _
    cases hb : Nat.ble (Nat.succ j) n with
    | true =>
      have := Nat.le_of_ble_eq_true hb
      rw [if_pos ⟨by simp, by simp; omega⟩]
      exact fNat_eq _ _
    | false =>
      rw [if_neg]
      · rfl
      · rintro ⟨_, h2⟩
        have h3 : j.succ ≤ n := by simp at h2; omega
        rw [Nat.ble_eq_true_of_le h3] at hb
        cases hb
noncomputable def kIxA2 (T : Tr Ty) (e : TypeId) (n b o : Nat) (i : Int) (h : H) (k : IV → H → Option β) : Option β := match kget T e with
  | some et => kIx n et.size b o i h k
  | none => none
noncomputable def kIxA (t : TypeId) (x i : Operand) : KOp β := fun _ T tm h k => kev x tm fun xv => kev i tm fun iv => match iv with
  | .int _ i => match kget T t with
    | some ty => match xv with
      | .slice b o len _ => match ty.d with
        | .slice e => kIxA2 T e len b o i h k
        | _ => none
      | .ptr b o => match ty.d with
        | .array n e => kIxA2 T e n b o i h k
        | _ => none
      | _ => none
    | none => none
  | _ => none
theorem kIxA2_eq (T : Tr Ty) (e : TypeId) (n b o : Nat) (i : Int) (h : H) (k : IV → H → Option β) :
    kIxA2 T e n b o i h k = withO (match T.get e with | some et => if 0 ≤ i ∧ i < (n : Int) then some (.ptr b (o + i.toNat * et.size)) else none | none => none) fun v => k v h := by
  unfold kIxA2
  rw [kget_eq]
  cases T.get e with
  | none => rfl
  | some et => exact kIx_eq ..

noncomputable def kFA (s : TypeId) (x : Operand) (f : Nat) : KOp β := fun _ T tm h k => kev x tm fun v => match v with
  | .ptr b o => match kget T s with
    | some ty => match ty.d with
      | .struct fs => match knth fs.toList f with
        | some fd => match kget T fd.type with
          | some ft => match Nat.beq ft.size 0 with
            | true => none
            | false => fNat (Nat.add o fd.offset) fun o => k (.ptr b o) h
          | none => none
        | none => none
      | _ => none
    | none => none
  | _ => none

noncomputable def kExt (x : Operand) (i : Nat) : KOp β := fun _ _ tm h k => kev x tm fun v => match v with
  | .tup vs => match knth vs i with
    | some v => k v h
    | none => none
  | _ => none

noncomputable def kCallV (fo : Operand) (args : List Operand) : KOp β := fun r _ tm h k => kev fo tm fun fv => kevs args tm fun vs => withO (r.cl fv vs h) fun x => k x.1 x.2
noncomputable def kCall (c : Call) : KOp β := match c.callee with
  | .value fo => kCallV fo c.args.toList
  | _ => kFall (.call c)

noncomputable def kop (op : Op) : KOp β := match op with
  | .move x => kMove x
  | .assign x => kMove x
  | .pick c a b => kPick c a b
  | .binOp op t x y _ => kBin op t x y
  | .load t a => kLoad t a
  | .store t a x => kStore t a x
  | .indexAddr t x i => kIxA t x i
  | .fieldAddr s x f => kFA s x f
  | .extract x i => kExt x i
  | .call c => kCall c
  | op => kFall op

theorem kFall_eq (op : Op) (r : Rn) (T : Tr Ty) (tm : Tm) (h : H) (k : IV → H → Option β) : kFall op r T tm h k = withO (iop T tm h op) fun x => k x.1 x.2 := by
  unfold kFall
  cases iop T tm h op with
  | none => rfl
  | some x =>
    obtain ⟨v, h1⟩ := x
    simp only [fIV_eq, fHeap_eq]
    cases sameH op <;> rfl

theorem withO_map {α γ : Type} (o : Option α) (f : α → γ) (k : γ → Option β) : withO (o.map f) k = withO o fun a => k (f a) := by cases o <;> rfl

theorem opS_pure {op : Op} (r : Rn) (T : Tr Ty) (tm : Tm) (h : H) (k : IV → H → Option β) (hc : ∀ c, op ≠ .call c) : opS op r T tm h k = withO (iop T tm h op) fun x => k x.1 x.2 := by
  unfold opS
  cases hi : iop T tm h op with
  | some x => rfl
  | none => cases op <;> first | rfl | exact absurd rfl (hc _)

theorem kop_eq (op : Op) (r : Rn) (T : Tr Ty) (tm : Tm) (h : H) (k : IV → H → Option β) : kop op r T tm h k = opS op r T tm h k := by
  cases op
  case call c =>
    show kCall c r T tm h k = _
    obtain ⟨callee, args, argTypes⟩ := c
    cases callee with
    | value fo =>
      show kCallV fo args.toList r T tm h k = _
      unfold kCallV opS
      simp only [kev_eq, kevs_eq, iop]
    | builtin b =>
      refine (kFall_eq _ r T tm h k).trans ?_
      unfold opS
      cases iop T tm h (.call ⟨.builtin b, args, argTypes⟩) <;> rfl
    | invoke a b => exact kFall_eq (.call ⟨.invoke a b, args, argTypes⟩) r T tm h k
  case move x =>
    rw [opS_pure _ _ _ _ _ (by simp)]
    show kMove x r T tm h k = _
    simp only [kMove, kev_eq, iop, withO_map]
  case assign x =>
    rw [opS_pure _ _ _ _ _ (by simp)]
    show kMove x r T tm h k = _
    simp only [kMove, kev_eq, iop, withO_map]
  case pick c a b =>
    rw [opS_pure _ _ _ _ _ (by simp)]
    show kPick c a b r T tm h k = _
    simp only [kPick, kev_eq, iop]
    cases evo tm c with
    | none => rfl
    | some v =>
      cases v with
      | bool b => cases b <;> simp only [withO, Option.map] <;> split <;> simp_all
      | _ => rfl
  case binOp op t x y yt =>
    rw [opS_pure _ _ _ _ _ (by simp)]
    show kBin op t x y r T tm h k = _
    simp only [kBin, kev_eq, iop, kBin2_eq]
    cases evo tm x with
    | none => rfl
    | some a =>
      cases evo tm y with
      | none => rfl
      | some b => simp only [withO_map]; rfl
  case load t a =>
    rw [opS_pure _ _ _ _ _ (by simp)]
    show kLoad t a r T tm h k = _
    simp only [kLoad, kev_eq, iop, kget_eq, kLoad2_eq]
    cases evo tm a with
    | none => rfl
    | some v =>
      cases v with
      | ptr b o =>
        cases T.get t with
        | none => rfl
        | some ty => simp only [withO_map]; rfl
      | _ => rfl
  case store t a x =>
    rw [opS_pure _ _ _ _ _ (by simp)]
    show kStore t a x r T tm h k = _
    simp only [kStore, kev_eq, iop, kget_eq, kStore2_eq]
    cases evo tm a with
    | none => rfl
    | some v =>
      cases evo tm x with
      | none => cases v <;> rfl
      | some xv =>
        cases v with
        | ptr b o =>
          cases T.get t with
          | none => rfl
          | some ty => simp only [withO_map]; rfl
        | _ => rfl
  case indexAddr t x i =>
    rw [opS_pure _ _ _ _ _ (by simp)]
    show kIxA t x i r T tm h k = _
    simp only [kIxA, kev_eq, iop, kget_eq, kIxA2_eq]
    cases evo tm x with
    | none => rfl
    | some xv =>
      cases evo tm i with
      | none => rfl
      | some iv =>
        simp only [withO_map]
        unfold indexAddrI
        cases iv with
        | int kd i =>
          cases T.get t with
          | none => rfl
          | some ty =>
            simp only [withO]
            cases hd : ty.d <;> cases xv <;> rfl
        | _ => cases T.get t <;> rfl
  case fieldAddr s x f =>
    rw [opS_pure _ _ _ _ _ (by simp)]
    show kFA s x f r T tm h k = _
    simp only [kFA, kev_eq, iop, kget_eq, knth_eq, fNat_eq]
    cases evo tm x with
    | none => rfl
    | some xv =>
      simp only [withO_map]
      unfold fieldAddrI
      cases xv with
      | ptr b o =>
        cases T.get s with
        | none => rfl
        | some ty =>
          simp only [withO]
          cases hd : ty.d with
          | struct fs =>
            simp only [Array.getElem?_toList]
            cases fs[f]? with
            | none => rfl
            | some fd =>
              simp only
              cases T.get fd.type with
              | none => rfl
              | some ft =>
                simp only
                cases Nat.beq ft.size 0 <;> rfl
          | _ => rfl
      | _ => cases T.get s <;> rfl
  case extract x i =>
    rw [opS_pure _ _ _ _ _ (by simp)]
    show kExt x i r T tm h k = _
    simp only [kExt, kev_eq, iop, knth_eq]
    cases evo tm x with
    | none => rfl
    | some v =>
      simp only [withO_map]
      cases v with
      | tup vs => simp only [withO, extractI]; cases vs[i]? <;> rfl
      | _ => rfl
  all_goals
    rw [opS_pure _ _ _ _ _ (by simp), ← kFall_eq _ r T tm h k]
    rfl
end
end Sx
