/- Calls that write nothing that was there: what they make is laid beside. -/
import Derived.Test.YtjeakifmlmmpaaaGreatDoorSxSound
namespace Sx
open Go Go.RowKit
set_option linter.unusedSimpArgs false

def Tr.frz : Tr (Bx × Bool) → Tr (Bx × Bool)
  | .leaf => .leaf
  | .node l r v => .node l.frz r.frz (v.map fun x => (x.1, false))

theorem Tr.get_frz : ∀ (t : Tr (Bx × Bool)) (i : Nat), t.frz.get i = (t.get i).map fun x => (x.1, false) := by
  intro t
  induction t with
  | leaf => intro i; rfl
  | node l r v ihl ihr =>
    intro i
    show (bif i.beq 0 then v.map (fun x => (x.1, false)) else bif (i % 2).beq 1 then l.frz.get (i / 2) else r.frz.get (i / 2 - 1)) =
      Option.map (fun x => (x.1, false)) (bif i.beq 0 then v else bif (i % 2).beq 1 then l.get (i / 2) else r.get (i / 2 - 1))
    rw [ihl, ihr]
    cases i.beq 0 <;> cases (i % 2).beq 1 <;> rfl

def H.frz (h : H) : H := ⟨h.t.frz, h.next⟩
theorem H.get_frz (h : H) (i : Nat) : h.frz.get i = (h.get i).map fun x => (x.1, false) := Tr.get_frz ..

/-- What is new in hA, from block i on, k of them. -/
def addT (tA : Tr (Bx × Bool)) : Nat → Nat → Tr (Bx × Bool) → Tr (Bx × Bool)
  | 0, _, t => t
  | k + 1, i, t => match tA.get i with
    | some (o, true) => addT tA k (i + 1) (t.set i (some (o, true)))
    | _ => addT tA k (i + 1) t

def newIn (tA : Tr (Bx × Bool)) (i : Nat) : Bool := match tA.get i with
  | some (_, true) => true
  | _ => false

theorem get_addT (tA : Tr (Bx × Bool)) : ∀ (k i : Nat) (t : Tr (Bx × Bool)) (j : Nat), (addT tA k i t).get j = if i ≤ j ∧ j < i + k ∧ newIn tA j = true then tA.get j else t.get j
  | 0, i, t, j => by simp only [addT]; rw [if_neg (by omega)]
  | k + 1, i, t, j => by
    simp only [addT]
    split
    · rename_i o hg
      rw [get_addT tA k (i + 1), Tr.get_set]
      by_cases hj : i = j
      · subst hj
        rw [if_neg (by omega), if_pos rfl, if_pos ⟨Nat.le_refl _, by omega, by simp [newIn, hg]⟩, hg]
      · rw [if_neg hj]
        by_cases h1 : i + 1 ≤ j ∧ j < i + 1 + k ∧ newIn tA j = true
        · rw [if_pos h1, if_pos ⟨by omega, by omega, h1.2.2⟩]
        · rw [if_neg h1, if_neg (fun h2 => h1 ⟨by omega, by omega, h2.2.2⟩)]
    · rename_i hg
      rw [get_addT tA k (i + 1)]
      by_cases hj : i = j
      · subst hj
        have : newIn tA i = false := by
          unfold newIn
          split
          · rename_i o hx; exact absurd hx (hg o)
          · rfl
        rw [if_neg (by omega), if_neg (fun h2 => by rw [this] at h2; exact absurd h2.2.2 (by simp))]
      · by_cases h1 : i + 1 ≤ j ∧ j < i + 1 + k ∧ newIn tA j = true
        · rw [if_pos h1, if_pos ⟨by omega, by omega, h1.2.2⟩]
        · rw [if_neg h1, if_neg (fun h2 => h1 ⟨by omega, by omega, h2.2.2⟩)]

def H.addN (h hA : H) : H := ⟨addT hA.t (hA.next - h.next) h.next h.t, hA.next⟩
theorem H.get_addN (h hA : H) (j : Nat) : (h.addN hA).get j = if h.next ≤ j ∧ j < h.next + (hA.next - h.next) ∧ newIn hA.t j = true then hA.get j else h.get j := get_addT ..

theorem Rel.frz {P : Program} {w0 : World} {E : Env} {h : H} {w : World} (hr : Rel P w0 E h w) : Rel P w E h.frz w := by
  have hg : ∀ i x, h.frz.get i = some x → ∃ o wr, h.get i = some (o, wr) ∧ x = (o, false) := fun i x hi => by
    rw [H.get_frz] at hi
    cases hx : h.get i with
    | none => rw [hx] at hi; cases hi
    | some y => rw [hx] at hi; cases hi; exact ⟨_, _, rfl, rfl⟩
  refine ⟨Below.refl _ _, fun i x hi => ?_, fun i o wr hi => ?_, fun i o hi => ?_, fun i j x y hi hj hw _ => ?_⟩
  · obtain ⟨o, wr, h1, _⟩ := hg i x hi; exact hr.dom _ _ h1
  · obtain ⟨o1, wr1, h1, h2⟩ := hg i _ hi
    cases h2
    exact hr.obj _ _ _ h1
  · obtain ⟨o1, wr1, h1, h2⟩ := hg i _ hi; cases h2
  · obtain ⟨o1, wr1, h1, rfl⟩ := hg i _ hi
    obtain ⟨o2, wr2, h2, rfl⟩ := hg j _ hj
    simp at hw

/-- A call that writes nothing that was there. -/
def FCl (P : Program) (fv : IV) (vs : List IV) (h : H) (v : IV) (hc : H) : Prop := ∃ hA, ClEq P fv vs h.frz v hA ∧ hc = h.addN hA

theorem FCl.rel {P : Program} {w0 : World} {E E' : Env} {h hA : H} {w w' : World} (hr : Rel P w0 E h w) (hr' : Rel P w E' hA w') (hs : Step E h.frz E' hA) :
    Rel P w0 E' (h.addN hA) w' ∧ Step E h E' (h.addN hA) ∧ Below w.heap.size w w' ∧ ∀ i x, h.next ≤ i → (h.addN hA).get i = some x → w.heap.size ≤ E'.ρ i := by
  have hle : h.next ≤ hA.next := hs.le
  have hB := hr'.below
  have hext : Ext h.next E E' := hs.ext
  have hsplit : ∀ i x, (h.addN hA).get i = some x → (i < h.next ∧ h.get i = some x) ∨ (h.next ≤ i ∧ i < hA.next ∧ hA.get i = some x ∧ x.2 = true) := by
    intro i x hi
    rw [H.get_addN] at hi
    split at hi
    · rename_i hc
      refine .inr ⟨hc.1, by omega, hi, ?_⟩
      have := hc.2.2
      unfold newIn at this
      have hi' : hA.t.get i = some x := hi
      rw [hi'] at this
      obtain ⟨o, b⟩ := x
      cases b with
      | true => rfl
      | false => simp at this
    · exact .inl ⟨hr.dom _ _ hi, hi⟩
  have hnew : ∀ i x, h.next ≤ i → (h.addN hA).get i = some x → w.heap.size ≤ E'.ρ i := by
    intro i x hle hi
    rcases hsplit i x hi with ⟨h1, _⟩ | ⟨_, _, h1, h2⟩
    · omega
    · obtain ⟨o, b⟩ := x
      simp only at h2
      subst h2
      exact hr'.wr _ _ h1
  refine ⟨⟨?_, fun i x hi => ?_, fun i o wr hi => ?_, fun i o hi => ?_, fun i j x y hi hj hw he => ?_⟩, ⟨hext, hle⟩, hB, hnew⟩
  · exact hr.below.trans (hB.mono hr.below.size)
  · rcases hsplit i x hi with ⟨h1, _⟩ | ⟨_, h1, _, _⟩
    · exact Nat.lt_of_lt_of_le h1 hle
    · exact h1
  · rcases hsplit i _ hi with ⟨h1, h2⟩ | ⟨_, h1, h2, _⟩
    · obtain ⟨a, b⟩ := hr.obj _ _ _ h2
      have hρ := (hext i h1).1
      refine ⟨?_, by rw [hρ]; exact Nat.lt_of_lt_of_le b hB.size⟩
      rw [hρ, hB.block _ b]
      exact a.mono hext h1 hle
    · exact hr'.obj _ _ _ h2
  · rcases hsplit i _ hi with ⟨h1, h2⟩ | ⟨h0, h1, h2, _⟩
    · rw [(hext i h1).1]; exact hr.wr _ _ h2
    · exact Nat.le_trans hr.below.size (hnew i _ h0 hi)
  · rcases hsplit i x hi with ⟨h1, h2⟩ | ⟨h0, h1, h2, h3⟩
    · rcases hsplit j y hj with ⟨k1, k2⟩ | ⟨k0, k1, k2, k3⟩
      · rw [(hext i h1).1, (hext j k1).1] at he
        exact hr.inj _ _ _ _ h2 k2 hw he
      · exfalso
        have e1 := hnew j y k0 hj
        obtain ⟨o, b⟩ := x
        have e2 := (hr.obj _ _ _ h2).2
        rw [(hext i h1).1] at he
        omega
    · rcases hsplit j y hj with ⟨k1, k2⟩ | ⟨k0, k1, k2, k3⟩
      · exfalso
        have e1 := hnew i x h0 hi
        obtain ⟨o, b⟩ := y
        have e2 := (hr.obj _ _ _ k2).2
        rw [(hext j k1).1] at he
        omega
      · exact hr'.inj _ _ _ _ h2 k2 (.inl h3) he

/-- The call, beside whatever else there is. -/
theorem FCl.run {P : Program} {fv : IV} {vs : List IV} {h hc : H} {v : IV} (hf : FCl P fv vs h v hc) {w0 : World} {E : Env} {w : World} (hr : Rel P w0 E h w) (hfu : fv.under h.next) (hu : underL h.next vs) :
    UponV P ((do let d ← Deferred.ofValue (fv.den E) (denL E vs).toArray; invoke d.target d.args : Sem Next).run P w) fun v' w' =>
      ∃ E', v' = v.den E' ∧ Rel P w0 E' hc w' ∧ Step E h E' hc ∧ v.under hc.next ∧ Below w.heap.size w w' ∧ (∀ i x, h.next ≤ i → hc.get i = some x → w.heap.size ≤ E'.ρ i) ∧ ∀ i x, i < h.next → hc.get i = some x → h.get i = some x := by
  obtain ⟨hA, hcl, rfl⟩ := hf
  have := hcl w E w hr.frz hfu hu
  have key : ∀ v' w', (∃ v2 h2 E2, v' = IV.den E2 v2 ∧ Rel P w E2 h2 w' ∧ Step E h.frz E2 h2 ∧ v2.under h2.next ∧ v2 = v ∧ h2 = hA) → ∃ E', v' = v.den E' ∧ Rel P w0 E' (h.addN hA) w' ∧ Step E h E' (h.addN hA) ∧ v.under (h.addN hA).next ∧ Below w.heap.size w w' ∧ (∀ i x, h.next ≤ i → (h.addN hA).get i = some x → w.heap.size ≤ E'.ρ i) ∧ ∀ i x, i < h.next → (h.addN hA).get i = some x → h.get i = some x := by
    rintro v' w' ⟨v2, h2, E2, h3, h4, h5, h6, rfl, rfl⟩
    obtain ⟨q1, q2, q3, q4⟩ := FCl.rel hr h4 h5
    refine ⟨E2, h3, q1, q2, h6, q3, q4, fun i x hi hx => ?_⟩
    rw [H.get_addN, if_neg (fun hh => by omega)] at hx
    exact hx
  unfold UponV at this ⊢
  split at this
  · exact CallsIn.mono this fun e w' he => by
      cases e with
      | returned v' => exact key _ _ he
      | panicked _ => exact he.elim
      | outgrown => exact he.elim
  · exact key _ _ this
  · exact RoundIn.mono this fun e w' he => by
      cases e with
      | returned v' => exact key _ _ he
      | panicked _ => exact he.elim
      | outgrown => exact he.elim
  · exact this.elim

theorem UponV.mono {P : Program} {r : Result Next} {R R' : Value → World → Prop} (h : UponV P r R) (hm : ∀ v w, R v w → R' v w) : UponV P r R' := by
  unfold UponV at h ⊢
  split at h
  · exact CallsIn.mono h fun e w' he => by
      cases e with
      | returned v' => exact hm _ _ he
      | panicked _ => exact he.elim
      | outgrown => exact he.elim
  · exact hm _ _ h
  · exact RoundIn.mono h fun e w' he => by
      cases e with
      | returned v' => exact hm _ _ he
      | panicked _ => exact he.elim
      | outgrown => exact he.elim
  · exact h.elim

theorem FCl.cl {P : Program} {fv : IV} {vs : List IV} {h hc : H} {v : IV} (hf : FCl P fv vs h v hc) : ClEq P fv vs h v hc :=
  fun _ _ _ hr hfu hu => UponV.mono (hf.run hr hfu hu) fun _ _ ⟨E', h1, h2, h3, h4, _, _⟩ => ⟨v, hc, E', h1, h2, h3, h4, rfl, rfl⟩
end Sx
