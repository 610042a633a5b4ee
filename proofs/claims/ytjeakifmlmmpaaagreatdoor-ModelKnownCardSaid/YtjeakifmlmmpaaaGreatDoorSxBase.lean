/- The ideal machine's data: finite maps, values, heaps, and how they stand to the model's own values and worlds. -/
import Derived.CallsIn
import Derived.RangeFuncIn
import Derived.DefersIn
import Derived.Below
namespace Sx
open Go Go.RowKit

/-! ### Finite maps over numbers -/
inductive Tr (α : Type) : Type
  | leaf
  | node (l r : Tr α) (v : Option α)

def Tr.get {α : Type} : Tr α → Nat → Option α
  | .leaf, _ => none
  | .node l r v, n => bif Nat.beq n 0 then v else bif Nat.beq (n % 2) 1 then l.get (n / 2) else r.get (n / 2 - 1)

def Tr.setF {α : Type} : Nat → Tr α → Nat → Option α → Tr α
  | 0, t, _, _ => t
  | f + 1, .leaf, n, a => bif Nat.beq n 0 then .node .leaf .leaf a else
      bif Nat.beq (n % 2) 1 then .node (setF f .leaf (n / 2) a) .leaf none else .node .leaf (setF f .leaf (n / 2 - 1) a) none
  | f + 1, .node l r v, n, a => bif Nat.beq n 0 then .node l r a else
      bif Nat.beq (n % 2) 1 then .node (setF f l (n / 2) a) r v else .node l (setF f r (n / 2 - 1) a) v

def Tr.set {α : Type} (t : Tr α) (n : Nat) (a : Option α) : Tr α := Tr.setF (n + 1) t n a

theorem Tr.get_setF {α : Type} : ∀ (f : Nat) (t : Tr α) (n m : Nat) (a : Option α), n < f → (Tr.setF f t n a).get m = if n = m then a else t.get m := by
  intro f
  induction f with
  | zero => intro t n m a h; omega
  | succ f ih =>
    intro t n m a h
    have b0 : ∀ x y : Nat, Nat.beq x y = decide (x = y) := fun x y => by
      by_cases e : x = y
      · subst e; simp
      · have : Nat.beq x y = false := by
          cases hb : Nat.beq x y
          · rfl
          · exact absurd (Nat.eq_of_beq_eq_true hb) e
        simp [this, e]
    have key : ∀ (l r : Tr α) (v : Option α), (bif Nat.beq n 0 then Tr.node l r a else
      bif Nat.beq (n % 2) 1 then .node (setF f l (n / 2) a) r v else .node l (setF f r (n / 2 - 1) a) v : Tr α).get m = if n = m then a else (Tr.node l r v).get m := by
      intro l r v
      by_cases h0 : n = 0
      · subst h0
        simp only [b0, decide_true, cond_true, Tr.get]
        by_cases hm : m = 0
        · subst hm; simp
        · have : ¬ 0 = m := fun e => hm e.symm
          simp [hm, this]
      · by_cases h1 : n % 2 = 1
        · simp only [b0, h0, decide_false, cond_false, h1, decide_true, cond_true, Tr.get]
          by_cases hm : m = 0
          · subst hm; simp [h0]
          · by_cases hm1 : m % 2 = 1
            · simp only [hm, decide_false, cond_false, hm1, decide_true, cond_true]
              rw [ih _ _ _ _ (by omega)]
              by_cases e : n = m
              · subst e; simp
              · rw [if_neg e, if_neg (by omega)]
            · simp only [hm, decide_false, cond_false, hm1]
              rw [if_neg (by omega)]
        · simp only [b0, h0, decide_false, cond_false, h1, Tr.get]
          by_cases hm : m = 0
          · subst hm; simp [h0]
          · by_cases hm1 : m % 2 = 1
            · simp only [hm, decide_false, cond_false, hm1, decide_true, cond_true]
              rw [if_neg (by omega)]
            · simp only [hm, decide_false, cond_false, hm1]
              rw [ih _ _ _ _ (by omega)]
              by_cases e : n = m
              · subst e; simp
              · rw [if_neg e, if_neg (by omega)]
    cases t with
    | leaf =>
      have hl : ∀ k, (Tr.leaf : Tr α).get k = (Tr.node .leaf .leaf none : Tr α).get k := fun k => by
        simp only [Tr.get]; cases Nat.beq k 0 <;> cases Nat.beq (k % 2) 1 <;> rfl
      rw [hl m]
      simpa [Tr.setF] using key .leaf .leaf none
    | node l r v => simpa [Tr.setF] using key l r v

theorem Tr.get_set {α : Type} (t : Tr α) (n m : Nat) (a : Option α) : (t.set n a).get m = if n = m then a else t.get m :=
  Tr.get_setF _ _ _ _ _ (Nat.lt_succ_self n)

/-! ### Values -/
inductive Cap
  | hard (n : Nat)
  | soft (k : Nat)
  deriving DecidableEq

inductive IFn
  | func (f : FuncId)
  | method (s : String)
  | yield (l : Nat)

inductive IV
  | bool (b : Bool)
  | int (k : IntKind) (n : Int)
  | str (s : List UInt8)
  | nilptr
  | ptr (b o : Nat)
  | nilslice
  | slice (b o len : Nat) (c : Cap)
  | tail (b o k s : Nat)
  | nilmap
  | map (b : Nat)
  | func (f : IFn) (first cap : List IV)
  | nilfunc
  | iface (t : TypeId) (v : IV)
  | nilif
  | agg (cs : List IV)
  | tup (vs : List IV)

structure Env where
  ρ : Nat → Nat
  κ : Nat → Nat

def Cap.den (E : Env) (b : Nat) : Cap → Nat
  | .hard n => n
  | .soft k => E.κ b - k

def IFn.den (E : Env) : IFn → Fn
  | .func f => .func f
  | .method s => .method s
  | .yield l => .yield (E.ρ l)

mutual
def IV.den (E : Env) : IV → Value
  | .bool b => .bool b
  | .int k n => .int k n
  | .str s => .string ⟨s.toArray⟩
  | .nilptr => .pointer none
  | .ptr b o => .pointer (some ⟨E.ρ b, o, none⟩)
  | .nilslice => .slice none 0 0
  | .slice b o len c => .slice (some ⟨E.ρ b, o, none⟩) len (c.den E b)
  | .tail b o k s => .slice (some ⟨E.ρ b, if E.κ b - k = 0 then o - s else o, none⟩) 0 (E.κ b - k)
  | .nilmap => .map none
  | .map b => .map (some (E.ρ b))
  | .func f first cap => .func (f.den E) (denL E first).toArray (denL E cap).toArray
  | .nilfunc => .nilFunc
  | .iface t v => .iface t (v.den E)
  | .nilif => .nilIface
  | .agg cs => .agg (denL E cs).toArray
  | .tup vs => .tuple (denL E vs).toArray
def denL (E : Env) : List IV → List Value
  | [] => []
  | v :: vs => v.den E :: denL E vs
end

theorem denL_eq (E : Env) (l : List IV) : denL E l = l.map (IV.den E) := by
  induction l with
  | nil => rfl
  | cons a l ih => simp [denL, ih]

def IFn.under (n : Nat) : IFn → Prop
  | .yield l => l < n
  | _ => True

mutual
/-- All blocks that a value names lie below n. -/
def IV.under (n : Nat) : IV → Prop
  | .ptr b _ => b < n
  | .slice b _ _ _ => b < n
  | .tail b _ _ _ => b < n
  | .map b => b < n
  | .func f first cap => f.under n ∧ underL n first ∧ underL n cap
  | .iface _ v => v.under n
  | .agg cs => underL n cs
  | .tup vs => underL n vs
  | _ => True
def underL (n : Nat) : List IV → Prop
  | [] => True
  | v :: vs => v.under n ∧ underL n vs
end

theorem underL_iff (n : Nat) (l : List IV) : underL n l ↔ ∀ v ∈ l, v.under n := by
  induction l with
  | nil => simp [underL]
  | cons a l ih => simp [underL, ih]

theorem IFn.under_mono {n m : Nat} (h : n ≤ m) {f : IFn} (hf : f.under n) : f.under m := by
  cases f <;> simp only [IFn.under] at * <;> omega

mutual
theorem IV.under_mono {n m : Nat} (h : n ≤ m) : ∀ (v : IV), v.under n → v.under m
  | .bool _, _ => by simp [IV.under]
  | .int _ _, _ => by simp [IV.under]
  | .str _, _ => by simp [IV.under]
  | .nilptr, _ => by simp [IV.under]
  | .ptr _ _, hv => by simp only [IV.under] at *; omega
  | .nilslice, _ => by simp [IV.under]
  | .slice _ _ _ _, hv => by simp only [IV.under] at *; omega
  | .tail _ _ _ _, hv => by simp only [IV.under] at *; omega
  | .nilmap, _ => by simp [IV.under]
  | .map _, hv => by simp only [IV.under] at *; omega
  | .func f a c, hv => by simp only [IV.under] at *; exact ⟨IFn.under_mono h hv.1, underL_mono h a hv.2.1, underL_mono h c hv.2.2⟩
  | .nilfunc, _ => by simp [IV.under]
  | .iface _ v, hv => by simp only [IV.under] at *; exact IV.under_mono h v hv
  | .nilif, _ => by simp [IV.under]
  | .agg cs, hv => by simp only [IV.under] at *; exact underL_mono h cs hv
  | .tup vs, hv => by simp only [IV.under] at *; exact underL_mono h vs hv
theorem underL_mono {n m : Nat} (h : n ≤ m) : ∀ (l : List IV), underL n l → underL m l
  | [], _ => by simp [underL]
  | v :: vs, hv => by simp only [underL] at *; exact ⟨IV.under_mono h v hv.1, underL_mono h vs hv.2⟩
end

/-- Two environments agree on all blocks below n. -/
def Ext (n : Nat) (E E' : Env) : Prop := ∀ i, i < n → E'.ρ i = E.ρ i ∧ E'.κ i = E.κ i

theorem Ext.refl (n : Nat) (E : Env) : Ext n E E := fun _ _ => ⟨rfl, rfl⟩
theorem Ext.trans {n m : Nat} {E E' E'' : Env} (h : Ext n E E') (h' : Ext m E' E'') (hnm : n ≤ m) : Ext n E E'' :=
  fun i hi => ⟨(h' i (by omega)).1.trans (h i hi).1, (h' i (by omega)).2.trans (h i hi).2⟩
theorem Ext.mono {n m : Nat} {E E' : Env} (h : Ext m E E') (hnm : n ≤ m) : Ext n E E' := fun i hi => h i (by omega)

theorem IFn.den_ext {n : Nat} {E E' : Env} (h : Ext n E E') {f : IFn} (hf : f.under n) : f.den E' = f.den E := by
  cases f with
  | yield l => simp only [IFn.den, IFn.under] at *; rw [(h _ hf).1]
  | _ => rfl

mutual
theorem IV.den_ext {n : Nat} {E E' : Env} (h : Ext n E E') : ∀ (v : IV), v.under n → v.den E' = v.den E
  | .bool _, _ => rfl
  | .int _ _, _ => rfl
  | .str _, _ => rfl
  | .nilptr, _ => rfl
  | .ptr b _, hv => by simp only [IV.under] at hv; simp only [IV.den]; rw [(h b hv).1]
  | .nilslice, _ => rfl
  | .slice b _ _ c, hv => by
      simp only [IV.under] at hv; simp only [IV.den]; rw [(h b hv).1]
      cases c <;> simp only [Cap.den]
      rw [(h b hv).2]
  | .tail b _ _ _, hv => by simp only [IV.under] at hv; simp only [IV.den]; rw [(h b hv).1, (h b hv).2]
  | .nilmap, _ => rfl
  | .map b, hv => by simp only [IV.under] at hv; simp only [IV.den]; rw [(h b hv).1]
  | .func f a c, hv => by simp only [IV.under] at hv; simp only [IV.den]; rw [IFn.den_ext h hv.1, denL_ext h a hv.2.1, denL_ext h c hv.2.2]
  | .nilfunc, _ => rfl
  | .iface _ v, hv => by simp only [IV.under] at hv; simp only [IV.den]; rw [IV.den_ext h v hv]
  | .nilif, _ => rfl
  | .agg cs, hv => by simp only [IV.under] at hv; simp only [IV.den]; rw [denL_ext h cs hv]
  | .tup vs, hv => by simp only [IV.under] at hv; simp only [IV.den]; rw [denL_ext h vs hv]
theorem denL_ext {n : Nat} {E E' : Env} (h : Ext n E E') : ∀ (l : List IV), underL n l → denL E' l = denL E l
  | [], _ => rfl
  | v :: vs, hv => by simp only [underL] at hv; simp only [denL]; rw [IV.den_ext h v hv.1, denL_ext h vs hv.2]
end

theorem length_denL (E : Env) (l : List IV) : (denL E l).length = l.length := by rw [denL_eq, List.length_map]

def undefI : IV := .tup []
theorem den_undef (E : Env) : undefI.den E = undef := by simp [undefI, IV.den, denL, undef]

/-- The cells of a value. -/
def IV.cells : IV → List IV
  | .agg cs => cs
  | v => [v]
theorem den_cells (E : Env) (v : IV) : (v.den E).cells = (denL E v.cells).toArray := by
  cases v <;> simp [IV.den, IV.cells, Value.cells, denL]
theorem under_cells {n : Nat} {v : IV} (h : v.under n) : underL n v.cells := by
  cases v <;> simp_all [IV.cells, IV.under, underL]

/-! ### Temporaries -/
abbrev Tm := Tr IV
def Tr.tmp (t : Tm) (i : Nat) : IV := (t.get i).getD undefI

/-! ### Heaps -/
inductive Bx
  | cells (cs : List IV) (elem : TypeId)
  | map (es : List (IV × IV × Nat)) (clock : Nat)
  | strIter (s : List UInt8) (pos : Nat)
  | mapIter (m since : Nat) (seen : List Nat) (last : Nat)
  | loop (st : LoopState) (pending : Option Code) (ntmps : Nat) (tm : Tm) (params : List Nat) (assign body : Code) (defers : Nat)
  | defs (taken : Bool)
  | glob (g rt ng t : Nat)
  | ro (off : Nat) (cs : List IV)
  | gname (g i : Nat)

structure H where
  t : Tr (Bx × Bool)
  next : Nat

def H.get (h : H) (i : Nat) : Option (Bx × Bool) := h.t.get i
def H.put (h : H) (i : Nat) (o : Bx) : H := { h with t := h.t.set i (some (o, true)) }
def H.kill (h : H) (i : Nat) : H := { h with t := h.t.set i none }
def H.new (h : H) (o : Bx) : H := { t := h.t.set h.next (some (o, true)), next := h.next + 1 }

theorem H.get_put (h : H) (i j : Nat) (o : Bx) : (h.put i o).get j = if i = j then some (o, true) else h.get j := Tr.get_set ..
theorem H.get_kill (h : H) (i j : Nat) : (h.kill i).get j = if i = j then none else h.get j := Tr.get_set ..
theorem H.get_new (h : H) (j : Nat) (o : Bx) : (h.new o).get j = if h.next = j then some (o, true) else h.get j := Tr.get_set ..
@[simp] theorem H.next_put (h : H) (i : Nat) (o : Bx) : (h.put i o).next = h.next := rfl
@[simp] theorem H.next_kill (h : H) (i : Nat) : (h.kill i).next = h.next := rfl
@[simp] theorem H.next_new (h : H) (o : Bx) : (h.new o).next = h.next + 1 := rfl

def entryDen (E : Env) (e : IV × IV × Nat) : MapEntry := ⟨e.1.den E, e.2.1.den E, e.2.2⟩

/-- How an ideal object stands to the block at its place. -/
def ORel (P : Program) (E : Env) (n : Nat) (i : Nat) : Bx → Option Obj → Prop
  | .cells cs elem, ob => ∃ (extra : List Value) (lo hi : Nat), ob = some (.cells (denL E cs ++ extra).toArray elem (lo, hi)) ∧
      (∀ o, o < (denL E cs ++ extra).length → ¬ (lo ≤ o ∧ o < hi)) ∧ underL n cs ∧
      (E.κ i * P.cellsOf elem = (denL E cs ++ extra).length)
  | .map es clock, ob => ob = some (.map (es.map (entryDen E)).toArray clock) ∧ ∀ e ∈ es, e.1.under n ∧ e.2.1.under n
  | .strIter s pos, ob => ob = some (.stringIter ⟨s.toArray⟩ pos)
  | .mapIter m since seen last, ob => ob = some (.mapIter (some (E.ρ m)) since seen.toArray last) ∧ m < n
  | .loop st pending ntmps tm params assign body defers, ob => ∃ (tmps : Array Value) (fn : FuncId), ob = some (.loop { state := st, pending, fn, tmps, params := params.toArray, assign, body, defers := E.ρ defers }) ∧
      tmps.size = ntmps ∧ (∀ j, tmps.getD j undef = (tm.tmp j).den E) ∧ (∀ j, (tm.tmp j).under i) ∧ defers < i
  | .defs taken, ob => ob = some (.deferred (if taken then none else some []))
  | .glob g rt ng t, ob => E.ρ i = g ∧ ∃ c e fr, ob = some (.cells c e fr) ∧ c[0]? = some (.iface rt (.agg #[.pointer (some ⟨ng, t, none⟩)]))
  | .ro off cs, ob => (∃ c e fr, ob = some (.cells c e fr) ∧ ∀ j v, cs[j]? = some v → c[off + j]? = some (v.den E)) ∧ underL n cs
  | .gname g b, _ => E.ρ b = g ∧ b < n

/-- The ideal heap h stands for the world w, which began as w0. -/
structure Rel (P : Program) (w0 : World) (E : Env) (h : H) (w : World) : Prop where
  below : Below w0.heap.size w0 w
  dom : ∀ i x, h.get i = some x → i < h.next
  obj : ∀ i o wr, h.get i = some (o, wr) → ORel P E h.next i o w.heap[E.ρ i]? ∧ E.ρ i < w.heap.size
  wr : ∀ i o, h.get i = some (o, true) → w0.heap.size ≤ E.ρ i
  inj : ∀ i j x y, h.get i = some x → h.get j = some y → x.2 = true ∨ y.2 = true → E.ρ i = E.ρ j → i = j

/-- What is reached from (E, h): blocks below h.next keep their names. -/
structure Step (E : Env) (h : H) (E' : Env) (h' : H) : Prop where
  ext : Ext h.next E E'
  le : h.next ≤ h'.next

theorem Step.refl (E : Env) (h : H) : Step E h E h := ⟨Ext.refl _ _, Nat.le_refl _⟩
theorem Step.trans {E E' E'' : Env} {h h' h'' : H} (a : Step E h E' h') (b : Step E' h' E'' h'') : Step E h E'' h'' :=
  ⟨a.ext.trans b.ext a.le, Nat.le_trans a.le b.le⟩

theorem ORel.mono {P : Program} {E E' : Env} {n n' i : Nat} {o : Bx} {ob : Option Obj} (h : ORel P E n i o ob) (he : Ext n E E') (hi : i < n) (hn : n ≤ n') :
    ORel P E' n' i o ob := by
  cases o with
  | cells cs elem =>
    obtain ⟨extra, lo, hh, h1, h2, h3, h4⟩ := h
    refine ⟨extra, lo, hh, ?_, ?_, underL_mono hn _ h3, ?_⟩
    · rw [denL_ext he cs h3]; exact h1
    · rw [denL_ext he cs h3]; exact h2
    · rw [denL_ext he cs h3, (he i hi).2]; exact h4
  | map es clock =>
    obtain ⟨h1, h2⟩ := h
    refine ⟨?_, fun e hm => ⟨IV.under_mono hn _ (h2 e hm).1, IV.under_mono hn _ (h2 e hm).2⟩⟩
    rw [h1]
    congr 3
    refine List.map_congr_left fun e hm => ?_
    simp only [entryDen]
    rw [IV.den_ext he _ (h2 e hm).1, IV.den_ext he _ (h2 e hm).2]
  | strIter s pos => exact h
  | mapIter m since seen last => exact ⟨by rw [(he m h.2).1]; exact h.1, Nat.lt_of_lt_of_le h.2 hn⟩
  | loop st pending ntmps tm params assign body defers =>
    obtain ⟨tmps, fn, h1, h2, h3, h4, h5⟩ := h
    refine ⟨tmps, fn, ?_, h2, fun j => ?_, h4, h5⟩
    · rw [(he defers (by omega)).1]; exact h1
    · rw [h3 j, IV.den_ext he _ (IV.under_mono (Nat.le_of_lt hi) _ (h4 j))]
  | defs taken => exact h
  | glob g rt ng t => exact ⟨(he i hi).1.trans h.1, h.2⟩
  | gname g b => exact ⟨(he b h.2).1.trans h.1, Nat.lt_of_lt_of_le h.2 hn⟩
  | ro off cs =>
    obtain ⟨⟨c, e, fr, h1, h2⟩, h3⟩ := h
    refine ⟨⟨c, e, fr, h1, fun j v hj => ?_⟩, underL_mono hn _ h3⟩
    rw [IV.den_ext he _ ((underL_iff _ _).1 h3 v (List.mem_of_getElem? hj))]
    exact h2 j v hj

end Sx
