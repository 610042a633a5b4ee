/- The machine with many ways out, without attempts on statements that have parts: each part is tried once. -/
import Derived.Test.YtjeakifmlmmpaaaGreatDoorSxLoose
namespace Sx
open Go Go.RowKit
set_option linter.unusedSimpArgs false

noncomputable def ncodeS (c : Code) : NC := match c with
  | .seq x y => nhard (.seq x y)
  | .cond c x y => nhard (.cond c x y)
  | .block id x => nhard (.block id x)
  | .loop x => nhard (.loop x)
  | c => fun r X T rd n fr h => ncodeL r X T c rd n fr h

noncomputable def nmachS (P : Program) (T : Tr Ty) (r : Rn) (n : Nat) : Xn :=
  Nat.rec (motive := fun _ => Xn) ⟨fun _ _ _ _ _ => none, fun _ _ _ => none⟩ (fun _ X => ⟨fun rd n c fr h => ncodeS c r X T rd n fr h, fun fv args h => ncl P T X fv args h⟩) n

section
variable {P : Program} {T : Tr Ty} (hT : TabOK P T) {r : Rn} (hr : SoundR P r) {X : Xn} (hX : SoundX P X) (hm : P.follows .mixedOrders = true)
include hT hr hX hm in
theorem ncodeS_sound {c : Code} {rd : Option Nat} {n : Nat} {fr : Fr} {h : H} {L : NL} (e : ncodeS c r X T rd n fr h = some L) : Ev P rd n c (InL L) fr h := by
  cases c with
  | seq x y => exact nhard_sound hT hr hX hm e
  | cond c x y => exact nhard_sound hT hr hX hm e
  | block id x => exact nhard_sound hT hr hX hm e
  | loop x => exact nhard_sound hT hr hX hm e
  | _ => exact ncodeL_sound hT hr hX hm e
end

theorem nmachS_sound {P : Program} {T : Tr Ty} (hT : TabOK P T) (hm : P.follows .mixedOrders = true) {r : Rn} (hr : SoundR P r) : ∀ n, SoundX P (nmachS P T r n) := by
  intro n
  induction n with
  | zero => exact ⟨fun _ _ _ _ _ _ e => (nomatch e), fun _ _ _ _ _ _ e => (nomatch e), fun _ _ _ _ e => (nomatch e)⟩
  | succ n ih =>
    refine ⟨fun rd k c fr h l e => ncodeS_sound hT hr ih hm e, fun rd k c fr h l e => ?_, fun fv args h l e => ncl_sound hT ih e⟩
    have e1 : nhard (.loop c) r (nmachS P T r n) T rd k fr h = some l := e
    exact nLoop_sound (T := T) (r := r) ih e1
end Sx
