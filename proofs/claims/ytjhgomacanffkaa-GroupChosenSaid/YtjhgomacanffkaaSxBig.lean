/- A call at a small heap, at any heap: blocks of plain values, own or of which only a window is known. -/
import Derived.Test.YtjhgomacanffkaaSxComp
namespace Sx
open Go Go.RowKit
set_option linter.unusedSimpArgs false

def Bx.flat : Bx → Bool
  | .cells cs _ => flatL cs
  | .ro _ cs => flatL cs
  | _ => false

def boxT : List Bx → Nat → Tr (Bx × Bool)
  | [], _ => .leaf
  | o :: l, i => (boxT l (i + 1)).set i (some (o, false))
def boxH (bs : List Bx) : H := ⟨boxT bs 0, bs.length⟩

theorem boxT_get : ∀ (bs : List Bx) (i j : Nat), (boxT bs i).get j = if i ≤ j then (bs[j - i]?).map fun x => (x, false) else none
  | [], i, j => by simp [boxT, Tr.get]
  | o :: l, i, j => by
    simp only [boxT, Tr.get_set, boxT_get l (i + 1) j]
    by_cases h : i = j
    · subst h; simp
    · rw [if_neg h]
      by_cases h2 : i + 1 ≤ j
      · rw [if_pos h2, if_pos (by omega)]
        obtain ⟨k, hk⟩ : ∃ k, j - i = k + 1 := ⟨j - i - 1, by omega⟩
        rw [hk, show j - (i + 1) = k by omega]
        simp
      · rw [if_neg h2, if_neg (by omega)]
theorem boxH_get (bs : List Bx) (j : Nat) : (boxH bs).get j = (bs[j]?).map fun x => (x, false) := by
  have := boxT_get bs 0 j
  simpa [boxH, H.get] using this

theorem ORel.flat {P : Program} {E : Env} {n n' i : Nat} {g : Nat → Nat} {o : Bx} {ob : Option Obj} (h : ORel P E n (g i) o ob) (hf : o.flat = true) : ORel P (E.ren g) n' i o ob := by
  cases o with
  | cells cs e =>
    obtain ⟨extra, lo, hh, h1, h2, h3, h4⟩ := h
    have hf : flatL cs = true := hf
    rw [den_flat (E := E) (E' := E.ren g) hf] at h1 h2 h4
    exact ⟨extra, lo, hh, h1, h2, underL_of_flat _ _ hf, h4⟩
  | ro off cs =>
    obtain ⟨⟨c, e, fr, h1, h2⟩, h3⟩ := h
    have hf : flatL cs = true := hf
    refine ⟨⟨c, e, fr, h1, fun j v hj => ?_⟩, underL_of_flat _ _ hf⟩
    have hv : v.den E = v.den (E.ren g) := by
      have := congrArg (fun l => l[j]?) (den_flat (E := E) (E' := E.ren g) hf)
      simp only [denL_eq, List.getElem?_map, hj, Option.map_some, Option.some.injEq] at this
      exact this
    rw [← hv]
    exact h2 j v hj
  | _ => cases hf

theorem box_rel {P : Program} {bs : List Bx} (hfl : bs.all Bx.flat = true) {H0 : H} {g : Nat → Nat} {w0 w : World} {E : Env} (hr : Rel P w0 E H0 w)
    (hblk : ∀ i o, bs[i]? = some o → ∃ wr, H0.get (g i) = some (o, wr))
    (hinj : ∀ i j, i < bs.length → j < bs.length → g i = g j → i = j) : Rel P w (E.ren g) (boxH bs) w := by
  refine ⟨Below.refl _ _, ?_, ?_, ?_, ?_⟩
  · intro i x hi
    rw [boxH_get] at hi
    cases hb : bs[i]? with
    | none => rw [hb] at hi; cases hi
    | some y => exact (List.getElem?_eq_some_iff.1 hb).1
  · intro i o wr hi
    rw [boxH_get] at hi
    cases hb : bs[i]? with
    | none => rw [hb] at hi; cases hi
    | some y =>
      rw [hb] at hi
      cases hi
      obtain ⟨wr', hg⟩ := hblk i _ hb
      obtain ⟨a, hlt⟩ := hr.obj _ _ _ hg
      exact ⟨a.flat (List.all_eq_true.1 hfl _ (List.mem_of_getElem? hb)), hlt⟩
  · intro i o hi
    rw [boxH_get] at hi
    cases hb : bs[i]? with
    | none => rw [hb] at hi; cases hi
    | some y => rw [hb] at hi; cases hi
  · intro i j x y hi hj hw he
    rw [boxH_get] at hi hj
    cases hb : bs[i]? with
    | none => rw [hb] at hi; cases hi
    | some y1 =>
      cases hb2 : bs[j]? with
      | none => rw [hb2] at hj; cases hj
      | some y2 =>
        rw [hb] at hi
        rw [hb2] at hj
        cases hi
        cases hj
        rcases hw with hw | hw <;> cases hw

theorem Sp.bigF {P : Program} {f : FuncId} {args : List IV} {bs : List Bx} {v : IV} {h' : H} (hfl : bs.all Bx.flat = true) (ha : underLB bs.length args = true) (hv : v.flat = true) (hs : SpEq P f args (boxH bs) v h')
    {H0 : H} (g : Nat → Nat) (hblk : ∀ i o, bs[i]? = some o → ∃ wr, H0.get (g i) = some (o, wr))
    (hinj : ∀ i j, i < bs.length → j < bs.length → g i = g j → i = j) : SpEq P f (renL g args) H0 v H0 := by
  intro w0 E w hr hu
  have hden : denL E (renL g args) = denL (E.ren g) args := by rw [denL_ren]
  have := hs w (E.ren g) w (box_rel hfl hr hblk hinj) (underLB_ok ha)
  rw [hden]
  refine this.mono ?_
  rintro e w' ⟨v2, h2, E', rfl, hr', hs', hv', rfl, rfl⟩
  have hbw : Below w.heap.size w w' := hr'.below
  have hbelow : Below w0.heap.size w0 w' := hr.below.trans (hbw.mono hr.below.size)
  refine ⟨v2, H0, E, ?_, ?_, Step.refl _ _, IV.under_of_flat _ _ hv, rfl, rfl⟩
  · rw [IV.den_ext (n := 0) (E := E) (E' := E') (fun i hi => by omega) v2 (IV.under_of_flat 0 v2 hv)]
  · exact ⟨hbelow, hr.dom, keeps_old hr hbw (Ext.refl _ _) (Nat.le_refl _), hr.wr, hr.inj⟩

theorem Sp.bigN {P : Program} {f : FuncId} {args : List IV} {bs : List Bx} {v : IV} {cs : List IV} {e : TypeId} (hfl : bs.all Bx.flat = true) (ha : underLB bs.length args = true) (hv : v.under 1) (hfc : flatL cs = true)
    (hs : SpEq P f args (boxH bs) (v.ren fun _ => bs.length) ((boxH bs).new (.cells cs e)))
    {H0 : H} (g : Nat → Nat) (hblk : ∀ i o, bs[i]? = some o → ∃ wr, H0.get (g i) = some (o, wr))
    (hinj : ∀ i j, i < bs.length → j < bs.length → g i = g j → i = j) : SpEq P f (renL g args) H0 (v.ren fun _ => H0.next) (H0.new (.cells cs e)) := by
  intro w0 E w hr hu
  have hden : denL E (renL g args) = denL (E.ren g) args := by rw [denL_ren]
  have := hs w (E.ren g) w (box_rel hfl hr hblk hinj) (underLB_ok ha)
  rw [hden]
  refine this.mono ?_
  rintro ev w' ⟨v2, h2, E', rfl, hr', hs', hv', rfl, rfl⟩
  have hbw : Below w.heap.size w w' := hr'.below
  have hbelow : Below w0.heap.size w0 w' := hr.below.trans (hbw.mono hr.below.size)
  have hg : ((boxH bs).new (.cells cs e)).get bs.length = some (.cells cs e, true) := by
    rw [H.get_new]; exact if_pos rfl
  obtain ⟨⟨extra, lo, hh, a1, a2, a3, a4⟩, hlt⟩ := hr'.obj _ _ _ hg
  have hwr := hr'.wr _ _ hg
  let E2 : Env := ⟨fun i => if i = H0.next then E'.ρ bs.length else E.ρ i, fun i => if i = H0.next then E'.κ bs.length else E.κ i⟩
  have hx : Ext H0.next E E2 := fun i hi => ⟨if_neg (by omega), if_neg (by omega)⟩
  have hat : E2.ρ H0.next = E'.ρ bs.length := if_pos rfl
  have hak : E2.κ H0.next = E'.κ bs.length := if_pos rfl
  refine ⟨v.ren fun _ => H0.next, H0.new (.cells cs e), E2, ?_, ?_, ⟨hx, Nat.le_succ _⟩, ?_, rfl, rfl⟩
  · rw [IV.den_ren, IV.den_ren]
    congr 2
    simp only [Env.ren, hat, hak]
  · have old := keeps_old hr hbw hx (n' := H0.next + 1) (by omega)
    refine ⟨hbelow, ?_, ?_, ?_, ?_⟩
    · intro i x hi
      rw [H.get_new] at hi
      by_cases e1 : H0.next = i
      · simp; omega
      · rw [if_neg e1] at hi
        have := hr.dom _ _ hi
        simp; omega
    · intro i o wr hi
      rw [H.get_new] at hi
      by_cases e1 : H0.next = i
      · subst e1
        rw [if_pos rfl] at hi
        cases hi
        rw [hat]
        refine ⟨⟨extra, lo, hh, ?_, ?_, underL_of_flat _ _ hfc, ?_⟩, hlt⟩
        · rw [den_flat (E := E2) (E' := E') hfc]; exact a1
        · rw [den_flat (E := E2) (E' := E') hfc]; exact a2
        · rw [den_flat (E := E2) (E' := E') hfc, hak]; exact a4
      · rw [if_neg e1] at hi
        exact old i o wr hi
    · intro i o hi
      rw [H.get_new] at hi
      by_cases e1 : H0.next = i
      · subst e1
        rw [hat]
        exact Nat.le_trans hr.below.size hwr
      · rw [if_neg e1] at hi
        rw [(hx i (hr.dom _ _ hi)).1]
        exact hr.wr i o hi
    · intro i j x y hi hj hw he
      rw [H.get_new] at hi hj
      have hlo : ∀ i x, H0.get i = some x → E2.ρ i < w.heap.size := fun i x hi => by
        rw [(hx i (hr.dom _ _ hi)).1]
        obtain ⟨o, wr⟩ := x
        exact (hr.obj _ _ _ hi).2
      by_cases e1 : H0.next = i
      · by_cases e2 : H0.next = j
        · omega
        · rw [if_neg e2] at hj
          have := hlo j y hj
          rw [← e1, hat] at he
          omega
      · rw [if_neg e1] at hi
        by_cases e2 : H0.next = j
        · have := hlo i x hi
          rw [← e2, hat] at he
          omega
        · rw [if_neg e2] at hj
          rw [(hx i (hr.dom _ _ hi)).1, (hx j (hr.dom _ _ hj)).1] at he
          exact hr.inj i j x y hi hj hw he
  · exact IV.under_ren (n := 1) (fun i _ => by simp) v hv
end Sx
