/- The law at every start at which ident.inEvents and ident.inPersons hold what the program's text lays in them. -/
import Derived.Test.YtjeakifmlmmpaaaGreatDoorMoLaw
namespace Go.Proofs.Mo
open Go Sx Go.RowKit
set_option linter.unusedSimpArgs false

theorem g0L_get : ∀ i x, g0S.get i = some x → (i = 0 ∧ x = (.ro 0 [u8 97, u8 122, u8 48, u8 57, u8 45, u8 45], false)) ∨ (i = 1 ∧ x = (.gname 0 0, false)) ∨ (i = 2 ∧ x = (.ro 0 [u8 33, u8 126], false)) ∨ (i = 3 ∧ x = (.gname 1 2, false)) := by
  intro i x hi
  rcases hpT_get hi with h | h
  · simpa [g0L] using h
  · cases h

/-- A block, cell by cell. -/
theorem cells_of {w : World} {b : Nat} : ∀ {l : List Int}, l ≠ [] → (∀ (j : Nat) (n : Int), l[j]? = some n → w.cell? ⟨b, j, none⟩ = some (.int .u8 n)) →
    ∃ (c : Array Value) (e : TypeId) (fr : Nat × Nat), w.heap[b]? = some (.cells c e fr) ∧ ∀ (j : Nat) (n : Int), l[j]? = some n → c[j]? = some (Value.int .u8 n) := by
  intro l hl h
  cases l with
  | nil => exact absurd rfl hl
  | cons a l =>
    have h0 := h 0 a rfl
    simp only [World.cell?] at h0
    split at h0
    · next c e fr hob =>
      refine ⟨c, e, fr, hob, fun j n hj => ?_⟩
      have hj' := h j n hj
      simp only [World.cell?, hob] at hj'
      simpa using hj'
    · cases h0

theorem start_rel {w : World} (h0 : ∀ j n, ([97, 122, 48, 57, 45, 45] : List Int)[j]? = some n → w.cell? ⟨0, j, none⟩ = some (.int .u8 n)) (h1 : ∀ j n, ([33, 126] : List Int)[j]? = some n → w.cell? ⟨1, j, none⟩ = some (.int .u8 n)) :
    Rel Tryz.prog w ⟨fun i => i / 2, id⟩ g0S w := by
  obtain ⟨c0, e0, f0, hb0, hc0⟩ := cells_of (by simp) h0
  obtain ⟨c1, e1, f1, hb1, hc1⟩ := cells_of (by simp) h1
  have s0 : 0 < w.heap.size := (Array.getElem?_eq_some_iff.1 hb0).1
  have s1 : 1 < w.heap.size := (Array.getElem?_eq_some_iff.1 hb1).1
  have nl : ∀ (l : List Int) (j : Nat) (v : IV), (l.map u8)[j]? = some v → ∃ n, l[j]? = some n ∧ v = u8 n := by
    intro l j v hv
    rw [List.getElem?_map] at hv
    cases hl : l[j]? with
    | none => rw [hl] at hv; cases hv
    | some n => rw [hl] at hv; exact ⟨n, rfl, (Option.some.inj hv).symm⟩
  refine ⟨Below.refl _ _, ?_, ?_, ?_, ?_⟩
  · intro i x hi
    rcases g0L_get i x hi with ⟨rfl, _⟩ | ⟨rfl, _⟩ | ⟨rfl, _⟩ | ⟨rfl, _⟩ <;> simp [g0S, St.H]
  · intro i o wr hi
    rcases g0L_get i _ hi with ⟨rfl, h⟩ | ⟨rfl, h⟩ | ⟨rfl, h⟩ | ⟨rfl, h⟩ <;> cases h
    · refine ⟨⟨⟨c0, e0, f0, hb0, fun j v hj => ?_⟩, by simp [underL, u8, IV.under]⟩, s0⟩
      obtain ⟨n, hn, rfl⟩ := nl [97, 122, 48, 57, 45, 45] j v hj
      rw [Nat.zero_add]
      simpa [u8, IV.den] using hc0 j n hn
    · exact ⟨⟨rfl, by simp [g0S, St.H]⟩, s0⟩
    · refine ⟨⟨⟨c1, e1, f1, hb1, fun j v hj => ?_⟩, by simp [underL, u8, IV.under]⟩, s1⟩
      obtain ⟨n, hn, rfl⟩ := nl [33, 126] j v hj
      rw [Nat.zero_add]
      simpa [u8, IV.den] using hc1 j n hn
    · exact ⟨⟨rfl, by simp [g0S, St.H]⟩, s1⟩
  · intro i o hi
    rcases g0L_get i _ hi with ⟨rfl, h⟩ | ⟨rfl, h⟩ | ⟨rfl, h⟩ | ⟨rfl, h⟩ <;> cases h
  · intro i j x y hi hj hw
    exfalso
    have k : ∀ i x, g0S.get i = some x → x.2 = false := fun i x hi => by
      rcases g0L_get i x hi with ⟨_, rfl⟩ | ⟨_, rfl⟩ | ⟨_, rfl⟩ | ⟨_, rfl⟩ <;> rfl
    rw [k i x hi, k j y hj] at hw
    simp at hw

theorem walk (w : World) (h0 : ∀ j n, ([97, 122, 48, 57, 45, 45] : List Int)[j]? = some n → w.cell? ⟨0, j, none⟩ = some (.int .u8 n)) (h1 : ∀ j n, ([33, 126] : List Int)[j]? = some n → w.cell? ⟨1, j, none⟩ = some (.int .u8 n)) :
    Calls Tryz.prog 6 #[] w fun e w' => e = .returned (.bool true) ∧ Below w.heap.size w w' := by
  refine (callsIn_wide.1 (l_sp w _ w (start_rel h0 h1) (by simp [underL]))).mono ?_
  rintro e w' ⟨v, h2, E', rfl, hr, _, _, rfl, _⟩
  exact ⟨rfl, hr.below⟩
end Go.Proofs.Mo
