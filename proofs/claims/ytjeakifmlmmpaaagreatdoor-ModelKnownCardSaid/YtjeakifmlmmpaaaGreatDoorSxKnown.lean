/- Calls that are known at one heap. -/
import Derived.Test.YtjeakifmlmmpaaaGreatDoorSxChunk
namespace Sx
open Go Go.RowKit
set_option linter.unusedSimpArgs false

def entS : Option (Bx × Bool) → Option (Bx × Bool) → Bool
  | none, none => true
  | some (a, x), some (b, y) => a.same b && (bif x then y else !y)
  | _, _ => false
theorem entS_eq : ∀ {a b : Option (Bx × Bool)}, entS a b = true → a = b
  | none, none, _ => rfl
  | some (a, x), some (b, y), h => by
    simp only [entS, Bool.and_eq_true] at h
    rw [Bx.same_eq h.1]
    cases x <;> cases y <;> simp at h ⊢
  | none, some _, h => by cases h
  | some _, none, h => by cases h
def treeS : Tr (Bx × Bool) → Tr (Bx × Bool) → Bool
  | .leaf, .leaf => true
  | .node l r v, .node l' r' v' => entS v v' && treeS l l' && treeS r r'
  | _, _ => false
theorem treeS_eq : ∀ {a b : Tr (Bx × Bool)}, treeS a b = true → a = b
  | .leaf, .leaf, _ => rfl
  | .node l r v, .node l' r' v', h => by
    simp only [treeS, Bool.and_eq_true] at h
    rw [entS_eq h.1.1, treeS_eq h.1.2, treeS_eq h.2]
  | .leaf, .node _ _ _, h => by cases h
  | .node _ _ _, .leaf, h => by cases h

/-- Functions without arguments that answer v at the heap h0, and leave it. -/
noncomputable def knownS (fs : List Nat) (v : IV) (h0 : H) : Short := fun f args h => match fs.any (fun g => Nat.beq g f) with
  | true => match args with
    | [] => match treeS h.t h0.t && Nat.beq h.next h0.next with
      | true => some (v, h)
      | false => none
    | _ => none
  | false => none
theorem knownS_sound {P : Program} {fs : List Nat} {v : IV} {h0 : H} (hk : ∀ f ∈ fs, SpEq P f [] h0 v h0 ∧ Go.Proofs.Enters P f) : SoundS P (knownS fs v h0) ∧ BodyS P (knownS fs v h0) := by
  have key : ∀ f args h v' h', knownS fs v h0 f args h = some (v', h') → SpEq P f args h v' h' ∧ Go.Proofs.Enters P f := by
    intro f args h v' h' e
    unfold knownS at e
    split at e
    case h_2 => cases e
    rename_i hf
    obtain ⟨g, hg, hgf⟩ := List.any_eq_true.1 hf
    have := Nat.eq_of_beq_eq_true hgf
    subst this
    split at e
    case h_2 => cases e
    split at e
    case h_2 => cases e
    rename_i hs
    cases e
    simp only [Bool.and_eq_true] at hs
    have hh : h = h0 := by
      have e1 := treeS_eq hs.1
      have e2 := Nat.eq_of_beq_eq_true hs.2
      cases h
      cases h0
      simp only at e1 e2
      rw [e1, e2]
    rw [hh]
    exact hk _ hg
  exact ⟨fun f args h v h' e => (key f args h v h' e).1, fun f args h x e => (key f args h x.1 x.2 e).2⟩
end Sx
