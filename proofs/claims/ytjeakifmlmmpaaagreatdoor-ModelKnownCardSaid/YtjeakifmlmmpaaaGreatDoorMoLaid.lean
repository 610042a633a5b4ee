/- What the row's laid variables say of their cells. -/
import Derived.Test.YtjeakifmlmmpaaaGreatDoorMoStart
import Derived.LaidLaws
import Derived.LaidHandle
import Derived.FnData
import Derived.Test.YtjeakifmlmmpaaaGreatDoorRows
namespace Go.Proofs.YtjeakifmlmmpaaaGreatDoor
open Go Sx Go.RowKit
set_option linter.unusedSimpArgs false

theorem und5 : Tryz.prog.underlying 5 = some (.int .u8) := by kernel_rfl
theorem und206 : Tryz.prog.underlying 206 = some (.struct #[⟨"from", 5, 0, false, "", "foyer/ident", 0⟩, ⟨"to", 5, 1, false, "", "foyer/ident", 1⟩]) := by kernel_rfl
theorem und207 : Tryz.prog.underlying 207 = some (.array 3 206) := by kernel_rfl
theorem und224 : Tryz.prog.underlying 224 = some (.array 1 206) := by kernel_rfl
theorem c5 : Tryz.prog.cellsOf 5 = 1 := by kernel_rfl
theorem c206 : Tryz.prog.cellsOf 206 = 2 := by kernel_rfl
theorem c207 : Tryz.prog.cellsOf 207 = 6 := by kernel_rfl
theorem c224 : Tryz.prog.cellsOf 224 = 2 := by kernel_rfl

theorem len2 {α : Type} {l : List α} (h : l.length = 2) : ∃ a b, l = [a, b] := by
  match l, h with
  | [a, b], _ => exact ⟨a, b, rfl⟩
theorem len6 {α : Type} {l : List α} (h : l.length = 6) : ∃ a b c d e f, l = [a, b, c, d, e, f] := by
  match l, h with
  | [a, b, c, d, e, f], _ => exact ⟨a, b, c, d, e, f, rfl⟩
section
variable {w : World} {base : Nat} {sp : Nat → Bool} {held : Bool}
theorem byte_of {fuel : Nat} {x : Value} {a : Int} {p : List MemPlace} (h : DataW.trod (fun _ => ()) Tryz.prog w base sp held fuel 5 [x] = some (.lit (.int .u8 a), p)) : x = .int .u8 a := by
  cases fuel with
  | zero => cases h
  | succ fuel =>
    cases x <;> simp [DataW.trod, und5] at h
    obtain ⟨⟨rfl, _⟩, rfl, _⟩ := h
    rfl
theorem span_of {fuel : Nat} {x y : Value} {a b : Int} {p : List MemPlace} (h : DataW.trod (fun _ => ()) Tryz.prog w base sp held fuel 206 [x, y] = some (.agg [.lit (.int .u8 a), .lit (.int .u8 b)], p)) : x = .int .u8 a ∧ y = .int .u8 b := by
  cases fuel with
  | zero => cases h
  | succ fuel =>
    simp only [DataW.trod, und206, c206, c5] at h
    rw [if_pos (show [x, y].length = 2 from rfl)] at h
    simp only [c5, List.mapM_cons, List.mapM_nil, List.drop, List.take, Option.map_eq_some_iff, Option.bind_eq_bind, Option.pure_def, Option.bind_some, Option.bind_eq_some_iff, Option.some.injEq] at h
    obtain ⟨xs, ⟨u, hu, l, ⟨v, hv, rfl⟩, rfl⟩, h2⟩ := h
    simp only [List.map_cons, List.map_nil, Prod.mk.injEq, DataW.agg.injEq, List.cons.injEq, and_true] at h2
    obtain ⟨u1, u2⟩ := u
    obtain ⟨v1, v2⟩ := v
    simp only at h2
    obtain ⟨⟨rfl, rfl⟩, _⟩ := h2
    exact ⟨byte_of hu, byte_of hv⟩
theorem spans1_of {fuel : Nat} {cs : List Value} {a b : Int} {p : List MemPlace} (h : DataW.trod (fun _ => ()) Tryz.prog w base sp held fuel 224 cs = some (.agg [.agg [.lit (.int .u8 a), .lit (.int .u8 b)]], p)) : cs = [.int .u8 a, .int .u8 b] := by
  cases fuel with
  | zero => cases h
  | succ fuel =>
    simp only [DataW.trod, und224, c224] at h
    split at h
    case isFalse => cases h
    rename_i hl
    obtain ⟨x1, x2, rfl⟩ := len2 hl
    simp only [c206, List.range_succ, List.range_zero, List.nil_append, List.cons_append, List.mapM_cons, List.mapM_nil, List.drop, List.take, Nat.zero_mul, Nat.one_mul, Option.map_eq_some_iff, Option.bind_eq_bind, Option.pure_def, Option.bind_some, Option.bind_eq_some_iff, Option.some.injEq] at h
    obtain ⟨xs, ⟨u, hu, rfl⟩, h2⟩ := h
    simp only [List.map_cons, List.map_nil, Prod.mk.injEq, DataW.agg.injEq, List.cons.injEq, and_true] at h2
    obtain ⟨u1, u2⟩ := u
    simp only at h2
    obtain ⟨rfl, _⟩ := h2
    obtain ⟨rfl, rfl⟩ := span_of hu
    rfl
theorem spans3_of {fuel : Nat} {cs : List Value} {a b c d e f : Int} {p : List MemPlace} (h : DataW.trod (fun _ => ()) Tryz.prog w base sp held fuel 207 cs = some (.agg [.agg [.lit (.int .u8 a), .lit (.int .u8 b)], .agg [.lit (.int .u8 c), .lit (.int .u8 d)], .agg [.lit (.int .u8 e), .lit (.int .u8 f)]], p)) : cs = [.int .u8 a, .int .u8 b, .int .u8 c, .int .u8 d, .int .u8 e, .int .u8 f] := by
  cases fuel with
  | zero => cases h
  | succ fuel =>
    simp only [DataW.trod, und207, c207] at h
    split at h
    case isFalse => cases h
    rename_i hl
    obtain ⟨x1, x2, x3, x4, x5, x6, rfl⟩ := len6 hl
    simp only [c206, List.range_succ, List.range_zero, List.nil_append, List.cons_append, List.mapM_cons, List.mapM_nil, Nat.zero_mul, Nat.one_mul, Nat.reduceMul, List.drop_zero, List.drop_succ_cons, List.take_succ_cons, List.take_zero, Option.map_eq_some_iff, Option.bind_eq_bind, Option.pure_def, Option.bind_some, Option.bind_eq_some_iff, Option.some.injEq] at h
    obtain ⟨xs, ⟨u, hu, l1, ⟨v, hv, l2, ⟨z, hz, rfl⟩, rfl⟩, rfl⟩, h2⟩ := h
    simp only [List.map_cons, List.map_nil, Prod.mk.injEq, DataW.agg.injEq, List.cons.injEq, and_true] at h2
    obtain ⟨u1, u2⟩ := u
    obtain ⟨v1, v2⟩ := v
    obtain ⟨z1, z2⟩ := z
    simp only at h2
    obtain ⟨⟨rfl, rfl, rfl⟩, _⟩ := h2
    obtain ⟨rfl, rfl⟩ := span_of hu
    obtain ⟨rfl, rfl⟩ := span_of hv
    obtain ⟨rfl, rfl⟩ := span_of hz
    rfl
end

/-- What the row lists. -/
def laids : List (String × DataW Unit) := [("unicode/utf8.acceptRanges", Rows.laid_unicode_utf8_acceptRanges), ("foyer/ident.inEvents", Rows.laid_foyer_ident_inEvents), ("foyer/ident.inPersons", Rows.laid_foyer_ident_inPersons), ("unicode/utf8.first", Rows.laid_unicode_utf8_first)]
theorem gE : Tryz.prog.globalNamed "foyer/ident.inEvents" = some 0 := by kernel_rfl
theorem gP : Tryz.prog.globalNamed "foyer/ident.inPersons" = some 1 := by kernel_rfl
theorem tE : (Tryz.prog.globals[0]?).map (·.type) = some 207 := by kernel_rfl
theorem tP : (Tryz.prog.globals[1]?).map (·.type) = some 224 := by kernel_rfl

theorem cells_of_laid {W : World} (h : laidMetH Tryz.prog laids W) : (∀ (j : Nat) (n : Int), ([97, 122, 48, 57, 45, 45] : List Int)[j]? = some n → W.cell? ⟨0, j, none⟩ = some (.int .u8 n)) ∧ (∀ (j : Nat) (n : Int), ([33, 126] : List Int)[j]? = some n → W.cell? ⟨1, j, none⟩ = some (.int .u8 n)) := by
  have h' : laidMet Tryz.prog laids W := h
  obtain ⟨ps, hv, _, _⟩ := h'
  obtain ⟨_, _, _, _, _, q1, _, _, _, _, hv, _⟩ := hv
  obtain ⟨g, t, cs, fuel, p, q2, e1, e2, e3, e4, hv, _⟩ := hv
  obtain ⟨g', t', cs', fuel', p', q3, e1', e2', e3', e4', hv, _⟩ := hv
  obtain rfl := Option.some.inj (gE.symm.trans e1)
  obtain rfl := Option.some.inj (gP.symm.trans e1')
  obtain rfl := Option.some.inj (tE.symm.trans e2)
  obtain rfl := Option.some.inj (tP.symm.trans e2')
  have k := spans3_of e4
  have k' := spans1_of e4'
  have key : ∀ (l : List Int) (cs : Array Value), cs.toList = l.map (Value.int .u8) → ∀ (j : Nat) (n : Int), l[j]? = some n → cs[j]? = some (.int .u8 n) := by
    intro l cs hc j n hj
    rw [← Array.getElem?_toList, hc, List.getElem?_map, hj]
    rfl
  refine ⟨fun j n hj => ?_, fun j n hj => ?_⟩
  · rw [World.var?_cell gE e3 j]
    exact key [97, 122, 48, 57, 45, 45] cs k j n hj
  · rw [World.var?_cell gP e3' j]
    exact key [33, 126] cs' k' j n hj
end Go.Proofs.YtjeakifmlmmpaaaGreatDoor
