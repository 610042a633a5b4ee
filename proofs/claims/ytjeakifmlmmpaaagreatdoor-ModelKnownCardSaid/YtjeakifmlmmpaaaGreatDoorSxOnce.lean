/- Functions all of whose ways out are alike. -/
import Derived.Test.YtjeakifmlmmpaaaGreatDoorSxLoose
namespace Sx
open Go Go.RowKit
set_option linter.unusedSimpArgs false

def entsSame : List (IV × IV × Nat) → List (IV × IV × Nat) → Bool
  | [], [] => true
  | (a, b, n) :: x, (a', b', n') :: y => a.same a' && b.same b' && Nat.beq n n' && entsSame x y
  | _, _ => false
theorem entsSame_eq : ∀ {x y : List (IV × IV × Nat)}, entsSame x y = true → x = y
  | [], [], _ => rfl
  | (a, b, n) :: x, (a', b', n') :: y, h => by
    simp only [entsSame, Bool.and_eq_true] at h
    rw [IV.same_eq _ _ h.1.1.1, IV.same_eq _ _ h.1.1.2, Nat.eq_of_beq_eq_true h.1.2, entsSame_eq h.2]
  | [], _ :: _, h => by cases h
  | _ :: _, [], h => by cases h

def Bx.same : Bx → Bx → Bool
  | .cells a e, .cells b e' => sameL a b && Nat.beq e e'
  | .map a c, .map b c' => entsSame a b && Nat.beq c c'
  | .ro o a, .ro o' b => Nat.beq o o' && sameL a b
  | .gname a b, .gname a' b' => Nat.beq a a' && Nat.beq b b'
  | _, _ => false
theorem Bx.same_eq {a b : Bx} (h : a.same b = true) : a = b := by
  cases a <;> cases b <;> simp only [Bx.same, Bool.and_eq_true] at h <;> try cases h
  · rename_i h1 h2; rw [sameL_eq _ _ h1, Nat.eq_of_beq_eq_true h2]
  · rename_i h1 h2; rw [entsSame_eq h1, Nat.eq_of_beq_eq_true h2]
  · rename_i h1 h2; rw [sameL_eq _ _ h2, Nat.eq_of_beq_eq_true h1]
  · rename_i h1 h2; rw [Nat.eq_of_beq_eq_true h1, Nat.eq_of_beq_eq_true h2]

/-- Another heap has block i alike. -/
def sameAt (x : Bx × Bool) (h' : H) (i : Nat) : Bool := match h'.get i with
  | some (b, wb) => x.1.same b && (bif x.2 then wb else !wb)
  | none => false
theorem sameAt_ok {x : Bx × Bool} {h' : H} {i : Nat} (h : sameAt x h' i = true) : h'.get i = some x := by
  unfold sameAt at h
  split at h
  · rename_i b wb hb
    obtain ⟨a, wa⟩ := x
    simp only [Bool.and_eq_true] at h
    rw [hb, Bx.same_eq h.1]
    cases wa <;> cases wb <;> simp at h ⊢
  · cases h

/-- What h0 has in common with all others. -/
noncomputable def kbuild (h0 : H) (rest : List (Res × H)) (l : List Nat) : Tr (Bx × Bool) → (Tr (Bx × Bool) → Option (IV × H)) → Option (IV × H) :=
  List.rec (motive := fun _ => Tr (Bx × Bool) → (Tr (Bx × Bool) → Option (IV × H)) → Option (IV × H)) (fun t k => k t) (fun i _ ih t k => match kget h0.t i with
    | some x => match rest.all fun y => sameAt x y.2 i with
      | true => ksetT t i (some x) fun t => ih t k
      | false => ih t k
    | none => ih t k) l

theorem kbuild_spec {h0 : H} {rest : List (Res × H)} {k : Tr (Bx × Bool) → Option (IV × H)} {r : IV × H} : ∀ {l : List Nat} {t : Tr (Bx × Bool)}, kbuild h0 rest l t k = some r → (∀ i x, t.get i = some x → i < h0.next ∧ h0.get i = some x ∧ ∀ y ∈ rest, y.2.get i = some x) → (∀ i ∈ l, i < h0.next) →
    ∃ t', k t' = some r ∧ ∀ i x, t'.get i = some x → i < h0.next ∧ h0.get i = some x ∧ ∀ y ∈ rest, y.2.get i = some x := by
  intro l
  induction l with
  | nil => intro t e ht _; exact ⟨t, e, ht⟩
  | cons i l ih =>
    intro t e ht hl
    have e1 : (match kget h0.t i with
      | some x => match rest.all fun y => sameAt x y.2 i with
        | true => ksetT t i (some x) fun t => kbuild h0 rest l t k
        | false => kbuild h0 rest l t k
      | none => kbuild h0 rest l t k) = some r := e
    have hl' : ∀ i ∈ l, i < h0.next := fun j hj => hl j (by simp [hj])
    rw [kget_eq] at e1
    split at e1
    · rename_i x hx
      split at e1
      · rename_i hall
        rw [ksetT_eq] at e1
        refine ih e1 (fun j y hj => ?_) hl'
        rw [Tr.get_set] at hj
        by_cases hij : i = j
        · subst hij
          rw [if_pos rfl] at hj
          cases hj
          exact ⟨hl _ (by simp), hx, fun y hy => sameAt_ok (List.all_eq_true.1 hall y hy)⟩
        · rw [if_neg hij] at hj; exact ht j y hj
      · exact ih e1 ht hl'
    · exact ih e1 ht hl'

/-- One answer for all ways out: what they have in common. -/
noncomputable def pick (L : List (Res × H)) : Option (IV × H) := match L with
  | (.ret v, h0) :: rest => match rest.all fun x => match x with
      | (.ret v', h') => v'.same v && Nat.beq h'.next h0.next
      | _ => false with
    | true => kbuild h0 rest (List.range h0.next) .leaf fun t => some (v, ⟨t, h0.next⟩)
    | false => none
  | _ => none

noncomputable def onceS (P : Program) (T : Tr Ty) (X : Xn) (fs : List Nat) : Short := fun f args h => match fs.any fun g => Nat.beq g f with
  | true => match knth P.funcs.toList f with
    | some fn => withO (nfun T X fn args h) pick
    | none => none
  | false => none

theorem pick_sound {P : Program} {f : FuncId} {args : List IV} {h : H} {L : List (Res × H)} (hs : SpX P f args h (fun v h' => (.ret v, h') ∈ L) (fun x h' => (.pan x, h') ∈ L)) {v : IV} {hF : H} (e : pick L = some (v, hF)) : SpEq P f args h v hF := by
  unfold pick at e
  split at e
  case h_2 => cases e
  rename_i v0 h0 rest
  split at e
  case h_2 => cases e
  rename_i hall
  obtain ⟨t', he, ht'⟩ := kbuild_spec e (fun i x hx => by cases hx) (fun i hi => List.mem_range.1 hi)
  cases he
  have hret : ∀ v' h', ((.ret v', h') : Res × H) ∈ (.ret v, h0) :: rest → v' = v ∧ h'.next = h0.next ∧ (h' = h0 ∨ ((.ret v', h') : Res × H) ∈ rest) := by
    intro v' h' hm
    rcases List.mem_cons.1 hm with h1 | h1
    · cases h1; exact ⟨rfl, rfl, .inl rfl⟩
    · have := List.all_eq_true.1 hall _ h1
      simp only [Bool.and_eq_true] at this
      exact ⟨IV.same_eq _ _ this.1, Nat.eq_of_beq_eq_true this.2, .inr h1⟩
  refine fun w0 E w hr hu => (hs w0 E w hr hu).mono ?_
  rintro e w' (⟨v', h', E', rfl, h2, h3, h4, h5⟩ | ⟨x, h', E', rfl, h2, h3, h4⟩)
  · obtain ⟨rfl, hn, hin⟩ := hret _ _ h5
    refine ⟨v', _, E', rfl, h2.congr (h' := ⟨t', h0.next⟩) (fun i x hx => ?_) hn.symm, ⟨h3.ext, by rw [← hn]; exact h3.le⟩, by rw [← hn]; exact h4, rfl, rfl⟩
    obtain ⟨g1, g2, g3⟩ := ht' i x hx
    rcases hin with h1 | h1
    · rw [h1]; exact g2
    · exact g3 _ h1
  · exfalso
    rcases List.mem_cons.1 h4 with h1 | h1
    · cases h1
    · have := List.all_eq_true.1 hall _ h1
      simp at this

theorem onceS_sound {P : Program} {T : Tr Ty} (hT : TabOK P T) {X : Xn} (hX : SoundX P X) (fs : List Nat) : SoundS P (onceS P T X fs) ∧ BodyS P (onceS P T X fs) := by
  have key : ∀ f args h v h', onceS P T X fs f args h = some (v, h') → SpEq P f args h v h' ∧ Go.Proofs.Enters P f := by
    intro f args h v h' e
    unfold onceS at e
    split at e
    case h_2 => cases e
    rw [knth_eq, Array.getElem?_toList] at e
    split at e
    case h_2 => cases e
    rename_i fn hf
    obtain ⟨L, hL, e⟩ := withO_some e
    obtain ⟨h1, h2⟩ := nfun_sound hT hX hf hL
    exact ⟨pick_sound h1 e, h2⟩
  exact ⟨fun f args h v h' e => (key f args h v h' e).1, fun f args h x e => (key f args h x.1 x.2 e).2⟩
end Sx
