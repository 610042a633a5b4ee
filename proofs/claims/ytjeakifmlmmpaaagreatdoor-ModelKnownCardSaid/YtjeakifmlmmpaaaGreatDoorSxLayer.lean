/- Answers that the machine with many ways out gives to the plain one. -/
import Derived.Test.YtjeakifmlmmpaaaGreatDoorSxDoes
import Derived.Test.YtjeakifmlmmpaaaGreatDoorSxOnce
namespace Sx
open Go Go.RowKit
set_option linter.unusedSimpArgs false

/-- The function that defers. -/
noncomputable def doesS (P : Program) (T : Tr Ty) (r : Rn) (X : Xn) (fd : Nat) : Short := fun f args h => match Nat.beq f fd with
  | true => match knth P.funcs.toList f with
    | some fn => nDoes P T r X fn args h
    | none => none
  | false => none

theorem doesS_sound {P : Program} {T : Tr Ty} (hT : TabOK P T) {r : Rn} (hr : SoundR P r) {X : Xn} (hX : SoundX P X) (fd : Nat) : SoundS P (doesS P T r X fd) ∧ BodyS P (doesS P T r X fd) := by
  have key : ∀ f args h v h', doesS P T r X fd f args h = some (v, h') → SpEq P f args h v h' ∧ Go.Proofs.Enters P f := by
    intro f args h v h' e
    unfold doesS at e
    split at e
    case h_2 => cases e
    rw [knth_eq, Array.getElem?_toList] at e
    split at e
    case h_2 => cases e
    rename_i fn hf
    exact nDoes_sound hT hr hX hf e
  exact ⟨fun f args h v h' e => (key f args h v h' e).1, fun f args h x e => (key f args h x.1 x.2 e).2⟩
end Sx
