/- Calls at small heaps, and what they tell of calls at great ones. -/
import Derived.Test.YtjeakifmlmmpaaaGreatDoorSxSound
namespace Sx
open Go Go.RowKit
set_option linter.unusedSimpArgs false

/-! ### Blocks under other names -/
def IFn.ren (f : Nat → Nat) : IFn → IFn
  | .yield l => .yield (f l)
  | g => g
mutual
def IV.ren (f : Nat → Nat) : IV → IV
  | .ptr b o => .ptr (f b) o
  | .slice b o n c => .slice (f b) o n c
  | .tail b o k s => .tail (f b) o k s
  | .map b => .map (f b)
  | .func g a c => .func (g.ren f) (renL f a) (renL f c)
  | .iface t v => .iface t (v.ren f)
  | .agg cs => .agg (renL f cs)
  | .tup vs => .tup (renL f vs)
  | .bool b => .bool b
  | .int k n => .int k n
  | .str s => .str s
  | .nilptr => .nilptr
  | .nilslice => .nilslice
  | .nilmap => .nilmap
  | .nilfunc => .nilfunc
  | .nilif => .nilif
def renL (f : Nat → Nat) : List IV → List IV
  | [] => []
  | v :: vs => v.ren f :: renL f vs
end

def Env.ren (E : Env) (f : Nat → Nat) : Env := ⟨fun i => E.ρ (f i), fun i => E.κ (f i)⟩

mutual
theorem IV.den_ren (E : Env) (f : Nat → Nat) : ∀ v : IV, (v.ren f).den E = v.den (E.ren f)
  | .ptr b o => rfl
  | .slice b o n c => by cases c <;> rfl
  | .tail b o k s => rfl
  | .map b => rfl
  | .func g a c => by
    simp only [IV.ren, IV.den]
    rw [denL_ren E f a, denL_ren E f c]
    cases g <;> rfl
  | .iface t v => by simp only [IV.ren, IV.den]; rw [IV.den_ren E f v]
  | .agg cs => by simp only [IV.ren, IV.den]; rw [denL_ren E f cs]
  | .tup vs => by simp only [IV.ren, IV.den]; rw [denL_ren E f vs]
  | .bool b => rfl
  | .int k n => rfl
  | .str s => rfl
  | .nilptr => rfl
  | .nilslice => rfl
  | .nilmap => rfl
  | .nilfunc => rfl
  | .nilif => rfl
theorem denL_ren (E : Env) (f : Nat → Nat) : ∀ l : List IV, denL E (renL f l) = denL (E.ren f) l
  | [] => rfl
  | v :: vs => by simp only [renL, denL]; rw [IV.den_ren E f v, denL_ren E f vs]
end

mutual
theorem IV.under_ren {n m : Nat} {f : Nat → Nat} (hf : ∀ i, i < n → f i < m) : ∀ v : IV, v.under n → (v.ren f).under m
  | .ptr b o, h => by simp only [IV.ren, IV.under] at *; exact hf _ h
  | .slice b o k c, h => by simp only [IV.ren, IV.under] at *; exact hf _ h
  | .tail b o k s, h => by simp only [IV.ren, IV.under] at *; exact hf _ h
  | .map b, h => by simp only [IV.ren, IV.under] at *; exact hf _ h
  | .func g a c, h => by
    simp only [IV.ren, IV.under] at *
    refine ⟨?_, underL_ren hf a h.2.1, underL_ren hf c h.2.2⟩
    cases g <;> simp only [IFn.ren, IFn.under] at * <;> exact hf _ h.1
  | .iface t v, h => by simp only [IV.ren, IV.under] at *; exact IV.under_ren hf v h
  | .agg cs, h => by simp only [IV.ren, IV.under] at *; exact underL_ren hf cs h
  | .tup vs, h => by simp only [IV.ren, IV.under] at *; exact underL_ren hf vs h
  | .bool b, _ => by simp [IV.ren, IV.under]
  | .int k n, _ => by simp [IV.ren, IV.under]
  | .str s, _ => by simp [IV.ren, IV.under]
  | .nilptr, _ => by simp [IV.ren, IV.under]
  | .nilslice, _ => by simp [IV.ren, IV.under]
  | .nilmap, _ => by simp [IV.ren, IV.under]
  | .nilfunc, _ => by simp [IV.ren, IV.under]
  | .nilif, _ => by simp [IV.ren, IV.under]
theorem underL_ren {n m : Nat} {f : Nat → Nat} (hf : ∀ i, i < n → f i < m) : ∀ l : List IV, underL n l → underL m (renL f l)
  | [], _ => by simp [renL, underL]
  | v :: vs, h => by simp only [renL, underL] at *; exact ⟨IV.under_ren hf v h.1, underL_ren hf vs h.2⟩
end

/-! ### A small call -/
/-- A call of f at a heap of blocks 0 .. that it does not write: what it answers, and the one block that it makes, if any. -/
structure Fact where
  f : Nat
  args : List IV
  blocks : List (List IV × TypeId)
  v : IV
  out : Option (Nat × List IV × TypeId)

def smallT : List (List IV × TypeId) → Nat → Tr (Bx × Bool)
  | [], _ => .leaf
  | (cs, e) :: l, i => (smallT l (i + 1)).set i (some (.cells cs e, false))
def smallH (bs : List (List IV × TypeId)) : H := ⟨smallT bs 0, bs.length⟩

theorem smallT_get : ∀ (bs : List (List IV × TypeId)) (i j : Nat), (smallT bs i).get j = if i ≤ j then (bs[j - i]?).map fun x => (.cells x.1 x.2, false) else none
  | [], i, j => by simp [smallT, Tr.get]
  | (cs, e) :: l, i, j => by
    simp only [smallT, Tr.get_set, smallT_get l (i + 1) j]
    by_cases h : i = j
    · subst h; simp
    · rw [if_neg h]
      by_cases h2 : i + 1 ≤ j
      · rw [if_pos h2, if_pos (by omega)]
        obtain ⟨k, hk⟩ : ∃ k, j - i = k + 1 := ⟨j - i - 1, by omega⟩
        rw [hk, show j - (i + 1) = k by omega]
        simp
      · rw [if_neg h2, if_neg (by omega)]
theorem smallH_get (bs : List (List IV × TypeId)) (j : Nat) : (smallH bs).get j = (bs[j]?).map fun x => (.cells x.1 x.2, false) := by
  have := smallT_get bs 0 j
  simpa [smallH, H.get] using this

mutual
def IV.underB (n : Nat) : IV → Bool
  | .ptr b _ => Nat.blt b n
  | .slice b _ _ _ => Nat.blt b n
  | .tail b _ _ _ => Nat.blt b n
  | .map b => Nat.blt b n
  | .func g a b => (match g with
    | .func _ => true
    | _ => false) && underLB n a && underLB n b
  | .iface _ v => v.underB n
  | .agg cs => underLB n cs
  | .tup cs => underLB n cs
  | _ => true
def underLB (n : Nat) : List IV → Bool
  | [] => true
  | v :: vs => v.underB n && underLB n vs
end
mutual
theorem IV.underB_ok {n : Nat} : ∀ {v : IV}, v.underB n = true → v.under n
  | .ptr b _, h => by simpa [IV.under, IV.underB, Nat.blt_eq] using h
  | .slice b _ _ _, h => by simpa [IV.under, IV.underB, Nat.blt_eq] using h
  | .tail b _ _ _, h => by simpa [IV.under, IV.underB, Nat.blt_eq] using h
  | .map b, h => by simpa [IV.under, IV.underB, Nat.blt_eq] using h
  | .func g a b, h => by
    simp only [IV.underB, Bool.and_eq_true] at h
    simp only [IV.under]
    refine ⟨?_, underLB_ok h.1.2, underLB_ok h.2⟩
    have := h.1.1
    cases g <;> simp [IFn.under] at *
  | .iface _ v, h => by simp only [IV.underB] at h; simp only [IV.under]; exact IV.underB_ok h
  | .agg cs, h => by simp only [IV.underB] at h; simp only [IV.under]; exact underLB_ok h
  | .tup cs, h => by simp only [IV.underB] at h; simp only [IV.under]; exact underLB_ok h
  | .bool _, _ => by simp [IV.under]
  | .int _ _, _ => by simp [IV.under]
  | .str _, _ => by simp [IV.under]
  | .nilptr, _ => by simp [IV.under]
  | .nilslice, _ => by simp [IV.under]
  | .nilmap, _ => by simp [IV.under]
  | .nilfunc, _ => by simp [IV.under]
  | .nilif, _ => by simp [IV.under]
theorem underLB_ok {n : Nat} : ∀ {l : List IV}, underLB n l = true → underL n l
  | [], _ => by simp [underL]
  | v :: vs, h => by simp only [underLB, Bool.and_eq_true] at h; simp only [underL]; exact ⟨IV.underB_ok h.1, underLB_ok h.2⟩
end

/-- What is made is one block of plain values; what is answered names no other block. -/
def Fact.ok (k : Fact) : Bool := k.blocks.all (fun x => flatL x.1) && (match k.out with
  | some (r, cs, _) => flatL cs && Nat.ble k.blocks.length r && (k.v.ren fun _ => r).same k.v
  | none => k.v.flat) && underLB k.blocks.length k.args

/-- What was shown of the program. -/
def Fact.Holds (P : Program) (k : Fact) : Prop := k.ok = true ∧ Go.Proofs.Enters P k.f ∧ ∃ h', SpEq P k.f k.args (smallH k.blocks) k.v h' ∧
  ∀ r cs e, k.out = some (r, cs, e) → h'.get r = some (.cells cs e, true)

theorem den_flat {E E' : Env} {l : List IV} (h : flatL l = true) : denL E l = denL E' l := denL_ext (n := 0) (E := E') (E' := E) (fun i hi => by omega) l (underL_of_flat 0 l h)

/-- The small heap stands for a great one's world. -/
theorem small_rel {P : Program} {bs : List (List IV × TypeId)} (hfl : bs.all (fun x => flatL x.1) = true) {H0 : H} {g : Nat → Nat} {w0 w : World} {E : Env} (hr : Rel P w0 E H0 w)
    (hblk : ∀ i cs e, bs[i]? = some (cs, e) → ∃ wr, H0.get (g i) = some (.cells cs e, wr))
    (hinj : ∀ i j, i < bs.length → j < bs.length → g i = g j → i = j) : Rel P w (E.ren g) (smallH bs) w := by
  have hflat1 : ∀ i cs e, bs[i]? = some (cs, e) → flatL cs = true := fun i cs e hi => List.all_eq_true.1 hfl (cs, e) (List.mem_of_getElem? hi)
  refine ⟨Below.refl _ _, ?_, ?_, ?_, ?_⟩
  · intro i x hi
    rw [smallH_get] at hi
    cases hb : bs[i]? with
    | none => rw [hb] at hi; cases hi
    | some y => exact (List.getElem?_eq_some_iff.1 hb).1
  · intro i o wr hi
    rw [smallH_get] at hi
    cases hb : bs[i]? with
    | none => rw [hb] at hi; cases hi
    | some y =>
      obtain ⟨cs, e⟩ := y
      rw [hb] at hi
      cases hi
      obtain ⟨wr', hg⟩ := hblk i cs e hb
      obtain ⟨⟨extra, lo, hh, a1, a2, a3, a4⟩, hlt⟩ := hr.obj _ _ _ hg
      have hf := hflat1 i cs e hb
      rw [den_flat (E := E) (E' := E.ren g) hf] at a1 a2 a4
      exact ⟨⟨extra, lo, hh, a1, a2, underL_of_flat _ _ hf, a4⟩, hlt⟩
  · intro i o hi
    rw [smallH_get] at hi
    cases hb : bs[i]? with
    | none => rw [hb] at hi; cases hi
    | some y => rw [hb] at hi; cases hi
  · intro i j x y hi hj hw he
    rw [smallH_get] at hi hj
    cases hb : bs[i]? with
    | none => rw [hb] at hi; cases hi
    | some y1 =>
      cases hb2 : bs[j]? with
      | none => rw [hb2] at hj; cases hj
      | some y2 =>
        rw [hb] at hi
        rw [hb2] at hj
        cases hi
        cases hj
        rcases hw with hw | hw <;> cases hw

def Fact.answer (k : Fact) (H0 : H) : IV × H := match k.out with
  | some (_, cs, e) => (k.v.ren fun _ => H0.next, H0.new (.cells cs e))
  | none => (k.v, H0)

theorem keeps_old {P : Program} {w0 w w' : World} {E E2 : Env} {H0 : H} (hr : Rel P w0 E H0 w) (hb : Below w.heap.size w w') (hx : Ext H0.next E E2) {n' : Nat} (hn : H0.next ≤ n') :
    ∀ i o wr, H0.get i = some (o, wr) → ORel P E2 n' i o w'.heap[E2.ρ i]? ∧ E2.ρ i < w'.heap.size := by
  intro i o wr hi
  have hlt := hr.dom _ _ hi
  obtain ⟨a, b⟩ := hr.obj _ _ _ hi
  rw [(hx i hlt).1, hb.block _ b]
  exact ⟨a.mono hx hlt hn, Nat.lt_of_lt_of_le b hb.size⟩

/-- The call at a great heap. -/
theorem Fact.big {P : Program} {k : Fact} (hk : k.Holds P) {H0 : H} {g : Nat → Nat}
    (hblk : ∀ i cs e, k.blocks[i]? = some (cs, e) → ∃ wr, H0.get (g i) = some (.cells cs e, wr))
    (hinj : ∀ i j, i < k.blocks.length → j < k.blocks.length → g i = g j → i = j)
    {args : List IV} (hargs : args = renL g k.args) :
    SpEq P k.f args H0 (k.answer H0).1 (k.answer H0).2 := by
  obtain ⟨hok, _, h', hsp, hout⟩ := hk
  simp only [Fact.ok, Bool.and_eq_true] at hok
  intro w0 E w hr hu
  have hs := small_rel hok.1.1 hr hblk hinj
  have hden : denL E args = denL (E.ren g) k.args := by rw [hargs, denL_ren]
  have hua : underL (smallH k.blocks).next k.args := underLB_ok hok.2
  have := hsp w (E.ren g) w hs hua
  rw [hden]
  refine this.mono ?_
  rintro e w' ⟨v, h2, E', rfl, hr', hs', hv', rfl, rfl⟩
  have hbw : Below w.heap.size w w' := hr'.below
  have hbelow : Below w0.heap.size w0 w' := hr.below.trans (hbw.mono hr.below.size)
  cases ho : k.out with
  | none =>
    rw [ho] at hok
    have hfl : k.v.flat = true := hok.1.2
    refine ⟨k.v, H0, E, ?_, ?_, Step.refl _ _, IV.under_of_flat _ _ hfl, ?_, ?_⟩
    · rw [IV.den_ext (n := 0) (E := E) (E' := E') (fun i hi => by omega) k.v (IV.under_of_flat 0 k.v hfl)]
    · exact ⟨hbelow, hr.dom, keeps_old hr hbw (Ext.refl _ _) (Nat.le_refl _), hr.wr, hr.inj⟩
    · simp [Fact.answer, ho]
    · simp [Fact.answer, ho]
  | some x =>
    obtain ⟨r, cs, e⟩ := x
    rw [ho] at hok
    simp only [Bool.and_eq_true] at hok
    obtain ⟨⟨_, ⟨hfc, hrl⟩, hsame⟩, _⟩ := hok
    have hsame' := IV.same_eq _ _ hsame
    have hg := hout r cs e ho
    obtain ⟨⟨extra, lo, hh, a1, a2, a3, a4⟩, hlt⟩ := hr'.obj _ _ _ hg
    have hwr := hr'.wr _ _ hg
    let E2 : Env := ⟨fun i => if i = H0.next then E'.ρ r else E.ρ i, fun i => if i = H0.next then E'.κ r else E.κ i⟩
    have hx : Ext H0.next E E2 := fun i hi => ⟨if_neg (by omega), if_neg (by omega)⟩
    have hat : E2.ρ H0.next = E'.ρ r := if_pos rfl
    have hak : E2.κ H0.next = E'.κ r := if_pos rfl
    refine ⟨k.v.ren fun _ => H0.next, H0.new (.cells cs e), E2, ?_, ?_, ⟨hx, Nat.le_succ _⟩, ?_, ?_, ?_⟩
    · rw [IV.den_ren]
      have : k.v.den E' = k.v.den (E'.ren fun _ => r) := by rw [← IV.den_ren, hsame']
      rw [this]
      congr 2
      simp only [Env.ren, hat, hak]
    · have old := keeps_old hr hbw hx (n' := H0.next + 1) (by omega)
      refine ⟨hbelow, ?_, ?_, ?_, ?_⟩
      · intro i x hi
        rw [H.get_new] at hi
        by_cases e1 : H0.next = i
        · simp; omega
        · rw [if_neg e1] at hi
          have := hr.dom _ _ hi
          simp; omega
      · intro i o wr hi
        rw [H.get_new] at hi
        by_cases e1 : H0.next = i
        · subst e1
          rw [if_pos rfl] at hi
          cases hi
          rw [hat]
          refine ⟨⟨extra, lo, hh, ?_, ?_, underL_of_flat _ _ hfc, ?_⟩, hlt⟩
          · rw [den_flat (E := E2) (E' := E') hfc]; exact a1
          · rw [den_flat (E := E2) (E' := E') hfc]; exact a2
          · rw [den_flat (E := E2) (E' := E') hfc, hak]; exact a4
        · rw [if_neg e1] at hi
          exact old i o wr hi
      · intro i o hi
        rw [H.get_new] at hi
        by_cases e1 : H0.next = i
        · subst e1
          rw [hat]
          exact Nat.le_trans hr.below.size hwr
        · rw [if_neg e1] at hi
          rw [(hx i (hr.dom _ _ hi)).1]
          exact hr.wr i o hi
      · intro i j x y hi hj hw he
        rw [H.get_new] at hi hj
        have hlo : ∀ i x, H0.get i = some x → E2.ρ i < w.heap.size := fun i x hi => by
          rw [(hx i (hr.dom _ _ hi)).1]
          obtain ⟨o, wr⟩ := x
          exact (hr.obj _ _ _ hi).2
        by_cases e1 : H0.next = i
        · by_cases e2 : H0.next = j
          · omega
          · rw [if_neg e2] at hj
            have := hlo j y hj
            rw [← e1, hat] at he
            omega
        · rw [if_neg e1] at hi
          by_cases e2 : H0.next = j
          · have := hlo i x hi
            rw [← e2, hat] at he
            omega
          · rw [if_neg e2] at hj
            rw [(hx i (hr.dom _ _ hi)).1, (hx j (hr.dom _ _ hj)).1] at he
            exact hr.inj i j x y hi hj hw he
    · exact IV.under_ren (n := h2.next) (fun i _ => by simp) k.v hv'
    · simp [Fact.answer, ho]
    · simp [Fact.answer, ho]

/-! ### Answers from facts -/
mutual
def IV.pairs : IV → IV → List (Nat × Nat) → List (Nat × Nat)
  | .ptr a _, .ptr b _, l => (a, b) :: l
  | .slice a _ _ _, .slice b _ _ _, l => (a, b) :: l
  | .map a, .map b, l => (a, b) :: l
  | .agg a, .agg b, l => pairsL a b l
  | .tup a, .tup b, l => pairsL a b l
  | _, _, l => l
def pairsL : List IV → List IV → List (Nat × Nat) → List (Nat × Nat)
  | a :: x, b :: y, l => a.pairs b (pairsL x y l)
  | _, _, l => l
end
def lookP : List (Nat × Nat) → Nat → Nat
  | [], _ => 0
  | (a, b) :: l, i => bif Nat.beq a i then b else lookP l i

noncomputable def blkOK (H0 : H) (g : Nat → Nat) : List (List IV × TypeId) → Nat → Bool
  | [], _ => true
  | (cs, e) :: l, i => (match kget H0.t (g i) with
    | some (.cells cs' e', _) => sameL cs' cs && Nat.beq e' e
    | _ => false) && blkOK H0 g l (i + 1)
def injOK (g : Nat → Nat) (n : Nat) : Bool := (List.range n).all fun j => (List.range j).all fun i => !(Nat.beq (g i) (g j))

/-- The fact fits the call. -/
noncomputable def Fact.fits (k : Fact) (f : Nat) (args : List IV) (H0 : H) : Bool :=
  Nat.beq k.f f && sameL (renL (lookP (pairsL k.args args [])) k.args).reverse args.reverse && blkOK H0 (lookP (pairsL k.args args [])) k.blocks 0 && injOK (lookP (pairsL k.args args [])) k.blocks.length

noncomputable def kanswer (k : Fact) (H0 : H) : Option (IV × H) := match k.out with
  | some (_, cs, e) => match H0 with
    | ⟨t, n⟩ => fIV 3 (k.v.ren fun _ => n) fun v => ksetT t n (some (.cells cs e, true)) fun t => fNat (Nat.succ n) fun n => some (v, ⟨t, n⟩)
  | none => some (k.v, H0)
theorem kanswer_eq (k : Fact) (H0 : H) : kanswer k H0 = some (k.answer H0) := by
  unfold kanswer Fact.answer
  cases k.out with
  | none => rfl
  | some x => obtain ⟨r, cs, e⟩ := x; obtain ⟨t, n⟩ := H0; simp only [fIV_eq, ksetT_eq, fNat_eq]; rfl

noncomputable def shortOf : List Fact → Short
  | [], _, _, _ => none
  | k :: ks, f, args, H0 => match k.fits f args H0 with
    | true => kanswer k H0
    | false => shortOf ks f args H0

theorem blkOK_spec {H0 : H} {g : Nat → Nat} : ∀ {l : List (List IV × TypeId)} {i : Nat}, blkOK H0 g l i = true → ∀ j cs e, l[j]? = some (cs, e) → ∃ wr, H0.get (g (i + j)) = some (.cells cs e, wr)
  | [], _, _, _, _, _, hj => by simp at hj
  | (cs, e) :: l, i, h, j, cs2, e2, hj => by
    simp only [blkOK, Bool.and_eq_true] at h
    cases j with
    | zero =>
      simp at hj
      obtain ⟨rfl, rfl⟩ := hj
      have h1 := h.1
      rw [kget_eq] at h1
      split at h1
      · next cs' e' wr hg =>
        simp only [Bool.and_eq_true] at h1
        have := sameL_eq _ _ h1.1
        have := beqT h1.2
        subst_vars
        exact ⟨wr, hg⟩
      · cases h1
    | succ j =>
      have := blkOK_spec h.2 j cs2 e2 (by simpa using hj)
      rw [show i + (j + 1) = i + 1 + j by omega]
      exact this

theorem Fact.fits_sound {P : Program} {k : Fact} (hk : k.Holds P) {f : Nat} {args : List IV} {H0 : H} (h : k.fits f args H0 = true) : SpEq P f args H0 (k.answer H0).1 (k.answer H0).2 := by
  simp only [Fact.fits, Bool.and_eq_true] at h
  obtain ⟨⟨⟨h1, h2⟩, h3⟩, h4⟩ := h
  have := beqT h1
  subst this
  have ha := sameL_eq _ _ h2
  have ha' : renL (lookP (pairsL k.args args [])) k.args = args := by
    have := congrArg List.reverse ha
    simpa using this
  refine Fact.big hk (g := lookP (pairsL k.args args [])) (fun i cs e hi => ?_) (fun i j hi hj he => ?_) ha'.symm
  · have := blkOK_spec h3 i cs e hi
    simpa using this
  · have key : ∀ i j, i < j → j < k.blocks.length → lookP (pairsL k.args args []) i = lookP (pairsL k.args args []) j → False := by
      intro i j hij hj he
      have a := List.all_eq_true.1 h4 j (List.mem_range.2 hj)
      have b := List.all_eq_true.1 a i (List.mem_range.2 hij)
      rw [he] at b
      simp at b
    rcases Nat.lt_trichotomy i j with h5 | h5 | h5
    · exact (key i j h5 hj he).elim
    · exact h5
    · exact (key j i h5 hi he.symm).elim

theorem shortOf_sound {P : Program} : ∀ {ks : List Fact}, (∀ k ∈ ks, k.Holds P) → SoundS P (shortOf ks) ∧ BodyS P (shortOf ks)
  | [], _ => ⟨fun _ _ _ _ _ h => (nomatch h), fun _ _ _ _ h => (nomatch h)⟩
  | k :: ks, hks => by
    have ih := shortOf_sound (ks := ks) fun k hk => hks k (by simp [hk])
    have hk := hks k (by simp)
    refine ⟨fun f args h v h' e => ?_, fun f args h x e => ?_⟩
    · simp only [shortOf] at e
      cases hf : k.fits f args h with
      | true =>
        rw [hf, kanswer_eq] at e
        have := Fact.fits_sound hk hf
        simp only [Option.some.injEq] at e
        rw [e] at this
        exact this
      | false => rw [hf] at e; exact ih.1 f args h v h' e
    · simp only [shortOf] at e
      cases hf : k.fits f args h with
      | true =>
        simp only [Fact.fits, Bool.and_eq_true] at hf
        rw [← beqT hf.1.1.1]
        exact hk.2.1
      | false => rw [hf] at e; exact ih.2 f args h x e

/-! ### How a fact is shown -/
noncomputable def Fact.check (P : Program) (T : Tr Ty) (sc : Short) (n : Nat) (k : Fact) : Bool := k.ok && match knth P.funcs.toList k.f with
  | some fn => match kfun T (kmach P T sc n) fn k.args (smallH k.blocks) with
    | some (v, h') => v.same k.v && (match k.out with
      | some (r, cs, e) => (match kget h'.t r with
        | some (.cells cs' e', true) => sameL cs' cs && Nat.beq e' e
        | _ => false)
      | none => true)
    | none => false
  | none => false

theorem Fact.holds_of_check {P : Program} {T : Tr Ty} (hT : TabOK P T) (hm : P.follows .mixedOrders = true) {ks : List Fact} (hks : ∀ k ∈ ks, k.Holds P) {n : Nat} {k : Fact} (hc : k.check P T (shortOf ks) n = true) : k.Holds P := by
  have hs := shortOf_sound hks
  simp only [Fact.check, Bool.and_eq_true] at hc
  obtain ⟨hok, hc⟩ := hc
  rw [knth_eq, Array.getElem?_toList] at hc
  split at hc
  case h_2 => cases hc
  rename_i fn hf
  split at hc
  case h_2 => cases hc
  rename_i v h' hrun
  have hS := kmach_sound hT hm hs.1 hs.2 n
  have := kfun_sound hT hS.1 hf hrun
  simp only [Bool.and_eq_true] at hc
  have hv := IV.same_eq _ _ hc.1
  subst hv
  refine ⟨hok, this.2, h', this.1, fun r cs e ho => ?_⟩
  have h2 := hc.2
  rw [ho] at h2
  simp only [kget_eq] at h2
  split at h2
  · next cs' e' hg =>
    simp only [Bool.and_eq_true] at h2
    have := sameL_eq _ _ h2.1
    have := beqT h2.2
    subst_vars
    exact hg
  · cases h2

/-! ### A closed law -/
theorem rel_empty (P : Program) (w : World) : Rel P w ⟨id, id⟩ ⟨.leaf, 0⟩ w :=
  ⟨Below.refl _ _, fun i x h => by simp [H.get, Tr.get] at h, fun i o wr h => by simp [H.get, Tr.get] at h, fun i o h => by simp [H.get, Tr.get] at h, fun i j x y h => by simp [H.get, Tr.get] at h⟩

theorem closed_law {P : Program} {k : Fact} (hk : k.Holds P) (ha : k.args = []) (hb : k.blocks = []) (hv : k.v = .bool true) (w : World) :
    Calls P k.f #[] w fun e w' => e = .returned (.bool true) ∧ Below w.heap.size w w' := by
  obtain ⟨_, _, h', hsp, _⟩ := hk
  rw [ha, hb, hv] at hsp
  have := hsp w ⟨id, id⟩ w (rel_empty P w) (by simp [underL])
  refine (callsIn_wide.1 this).mono ?_
  rintro e w' ⟨v, h2, E', rfl, hr, _, _, rfl, _⟩
  exact ⟨rfl, hr.below⟩
end Sx
