/- From the model's arguments to the ideal machine's: a list, an array of bools, a byte. -/
import Derived.Test.YtjhgomacanffkaaGArgs
import Derived.Test.YtjhgomacanffkaaGFits
namespace Go.Proofs.Ytjhgomacanffkaa
open Go Sx Go.ChangeShapes Go.WideShapes Go.ChangeAt Go.RowKit
set_option linter.unusedVariables false

def tkV (tk : Nat → Bool) : Value := .agg ((List.range 64).map fun j => Value.bool (tk j)).toArray
theorem den_tkL (E : Env) (tk : Nat → Bool) : (IV.agg (tkL tk)).den E = tkV tk := by
  simp only [IV.den, tkV, denL_eq, tkL, List.map_map]
  rfl
theorem under_tkL (n : Nat) (tk : Nat → Bool) : (IV.agg (tkL tk)).under n := by
  simp only [IV.under]
  refine (underL_iff _ _).2 fun v hv => ?_
  unfold tkL at hv
  obtain ⟨j, _, rfl⟩ := List.mem_map.1 hv
  simp [IV.under]

section
variable {H : Type} {enc : TypeId × Value → H} {w : World} {base0 base : Nat} {held : Bool} {r : Reach}
theorem bools_of {v : Value} {d : DataW H} {p : List MemPlace} (hval : Value.okWide Try.prog w r base0 25 v) (h : DataW.Trod enc Try.prog w base (fun _ => true) held 25 v d p) : ∃ tk, v = tkV tk := by
  have hval' := hval
  simp only [Value.okWide, Try.underlying25] at hval'
  obtain ⟨cs, rfl, hsz, _⟩ := hval'
  have hsz : cs.size = 64 := by rw [hsz]; kernel_rfl
  obtain ⟨fuel, hf⟩ := h
  obtain ⟨xs, k, _, _, _, hxl, hf⟩ := DataW.trod_array Try.underlying25 hf
  have each : ∀ j, j < 64 → ∃ b, cs[j]? = some (.bool b) := by
    intro j hj
    have g := hf j (by omega)
    rw [show Try.prog.cellsOf 4 = 1 from by kernel_rfl, List.getElem?_eq_getElem (by omega)] at g
    obtain ⟨b, hb, _⟩ := DataW.trod_bool Try.underlying4 g
    refine ⟨b, ?_⟩
    have hl : ((Value.agg cs).cells.toList.drop (j * 1)).take 1 = [.bool b] := hb
    have : (((Value.agg cs).cells.toList.drop (j * 1)).take 1)[0]? = some (.bool b) := by rw [hl]; rfl
    simpa [Value.cells] using this
  refine ⟨fun j => match cs[j]? with | some (.bool b) => b | _ => false, ?_⟩
  unfold tkV
  congr 1
  refine Array.ext (by simp [hsz]) fun i h1 h2 => ?_
  obtain ⟨b, hb⟩ := each i (by omega)
  have he := (Array.getElem?_eq_some_iff.1 hb).2
  rw [he]
  simp [hb]
end

theorem walk4 (w : World) {v0 : Value} {ps : List (Int × Int)} {tk : Nat → Bool} {z : Nat} (h0 : PairsArg w v0 ps) (hm : ∀ r ∈ ps, (0 ≤ r.1 ∧ r.1 < 256) ∧ 0 ≤ r.2 ∧ r.2 < 256) (hz : z < 256) :
    Calls Try.prog 4 #[v0, tkV tk, .int .u8 (z : Nat)] w fun e w' => e = .returned (.bool true) ∧ Below w.heap.size w w' := by
  obtain ⟨av, off0, x0, o0, b0, a1, a2, a3, a4, a5, a6, a7, a8⟩ := pairs_at h0 0
  let E : Env := ⟨fun _ => b0, id⟩
  have e0 : E.ρ 0 = b0 := rfl
  have hrel : Rel Try.prog w E (hL o0 none) w := rel_hL _ (fun x hx => a8 _ E 2 0 e0 x hx) (fun x hx => by cases hx)
  have hp : Pairs (hL o0 none) av 0 off0 x0 ps := ⟨a4, a5, a6, a7, a3.imp id fun e => by rw [e]; rfl, hm⟩
  have := law4_sp hp tk hz w E w hrel (by
    simp only [underL, and_true]
    exact ⟨IV.under_mono (show 1 ≤ 2 by decide) _ a2, under_tkL _ tk, by simp [IV.under]⟩)
  rw [show denL E [av, .agg (tkL tk), .int .u8 (z : Nat)] = [v0, tkV tk, .int .u8 (z : Nat)] by simp only [denL, a1 E e0, den_tkL]; rfl] at this
  refine (callsIn_wide.1 this).mono ?_
  rintro e w' ⟨v, h2, E', rfl, hr, _, _, rfl⟩
  exact ⟨rfl, hr.below⟩
end Go.Proofs.Ytjhgomacanffkaa
