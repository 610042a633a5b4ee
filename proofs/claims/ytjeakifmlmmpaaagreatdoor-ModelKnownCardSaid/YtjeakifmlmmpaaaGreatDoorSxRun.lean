/- Running the ideal machine. -/
import Derived.Test.YtjeakifmlmmpaaaGreatDoorSxText
namespace Sx
open Go Go.RowKit
set_option linter.unusedSimpArgs false

/-! ### The types' table, read off the program -/
def zL (f : Value → Option IV) : List Value → Option (List IV)
  | [] => some []
  | v :: vs => match f v, zL f vs with
    | some a, some bs => some (a :: bs)
    | _, _ => none

def zI : Nat → Value → Option IV
  | 0, _ => none
  | n + 1, v => match v with
    | .bool b => some (.bool b)
    | .int k i => some (.int k i)
    | .string s => some (.str s.data.toList)
    | .pointer none => some .nilptr
    | .slice none l c => bif Nat.beq l 0 && Nat.beq c 0 then some .nilslice else none
    | .map none => some .nilmap
    | .nilFunc => some .nilfunc
    | .nilIface => some .nilif
    | .agg cs => (zL (zI n) cs.toList).map .agg
    | _ => none

theorem zL_ok {f : Value → Option IV} (hf : ∀ v i, f v = some i → (∀ E, v = i.den E) ∧ i.flat = true) : ∀ {l : List Value} {is : List IV}, zL f l = some is → (∀ E, l = denL E is) ∧ flatL is = true
  | [], is, h => by cases h; exact ⟨fun _ => rfl, rfl⟩
  | v :: vs, is, h => by
    simp only [zL] at h
    split at h
    · next a bs ha has =>
      cases h
      have h1 := hf _ _ ha
      have h2 := zL_ok hf has
      exact ⟨fun E => by simp only [denL]; rw [h1.1 E, h2.1 E], by simp [flatL, h1.2, h2.2]⟩
    · cases h

theorem zI_ok : ∀ {n : Nat} {v : Value} {i : IV}, zI n v = some i → (∀ E, v = i.den E) ∧ i.flat = true := by
  intro n
  induction n with
  | zero => intro v i h; cases h
  | succ n ih =>
    intro v i h
    simp only [zI] at h
    split at h
    case h_5 =>
      rename_i l c
      cases hb : (Nat.beq l 0 && Nat.beq c 0) with
      | false => rw [hb] at h; cases h
      | true =>
        rw [hb] at h
        cases h
        simp only [Bool.and_eq_true] at hb
        have := Nat.eq_of_beq_eq_true hb.1
        have := Nat.eq_of_beq_eq_true hb.2
        subst_vars
        exact ⟨fun _ => rfl, rfl⟩
    case h_9 =>
      rename_i cs
      cases hc : zL (zI n) cs.toList with
      | none => rw [hc] at h; cases h
      | some is =>
        rw [hc] at h
        cases h
        have := zL_ok (fun v i => ih) hc
        refine ⟨fun E => ?_, by simpa [IV.flat] using this.2⟩
        simp only [IV.den]
        congr 1
        apply Array.ext'
        simpa using this.1 E
    case h_3 => cases h; exact ⟨fun _ => by simp [IV.den], rfl⟩
    all_goals first
      | (cases h; exact ⟨fun _ => rfl, rfl⟩)
      | cases h

def tyAt (P : Program) (t : TypeId) : Option Ty :=
  match P.underlying t, P.info? t with
  | some d, some i => match i.zero with
    | some z => match zI 9 z with
      | some iv => some ⟨d, i.size, i.bytes, iv, !P.stoodInHeld t && !P.eqGuardType P.depth t⟩
      | none => none
    | none => none
  | _, _ => none

def tabF (P : Program) : Nat → Tr Ty
  | 0 => .leaf
  | n + 1 => (tabF P n).set n (tyAt P n)

theorem tabF_get (P : Program) : ∀ {n t : Nat} {ty : Ty}, (tabF P n).get t = some ty → tyAt P t = some ty
  | 0, t, ty, h => by simp [tabF, Tr.get] at h
  | n + 1, t, ty, h => by
    simp only [tabF, Tr.get_set] at h
    split at h
    · next e => rw [← e]; exact h
    · exact tabF_get P h

theorem tabOK (P : Program) (n : Nat) : TabOK P (tabF P n) := by
  intro t ty h
  have := tabF_get P h
  unfold tyAt at this
  split at this
  case h_2 => cases this
  rename_i d i hu hi
  split at this
  case h_2 => cases this
  rename_i z hz
  split at this
  case h_2 => cases this
  rename_i iv hiv
  cases this
  have hk := zI_ok hiv
  exact ⟨hu, ⟨i, hi, rfl, rfl, fun E => by rw [hz, hk.1 E]⟩, hk.2, fun h => by simpa using h⟩

/-! ### The static check -/
def okC (T : Tr Ty) (n : Nat) : Code → Bool
  | .seq x y => okC T n x && okC T n y
  | .cond _ x y => okC T n x && okC T n y
  | .block _ x => okC T n x
  | .loop x => okC T n x
  | .region _ ops b => bif b then drawOK T ops n else dstOK ops n
  | .rangeFunc _ _ x y => okC T n x && okC T n y
  | _ => true

def okFn (T : Tr Ty) (fn : Func) : Bool :=
  !(fn.name == "runtime.NumGoroutine") && (match fn.body with | some c => okC T fn.ntmps c | none => true)

/-- All functions that are used pass the check. -/
def okFuncs (P : Program) (T : Tr Ty) (use : Nat → Bool) : Bool :=
  (List.range P.funcs.size).all fun f => !use f || (match P.funcs[f]? with | some fn => okFn T fn | none => true)
end Sx
