/- Functions without bodies that the program comes to: maps.clone, internal/bytealg.CountString. -/
import Derived.Test.YtjeakifmlmmpaaaGreatDoorSxFast
import Derived.Lib.Bytealg
import Derived.Laws.Externs
namespace Sx
open Go Go.RowKit
set_option linter.unusedSimpArgs false

theorem find_clone {fn : Func} (hn : fn.name = "maps.clone") (ho : fn.origin = "") : Extern.find fn = some Extern.MapsClone.clone ∧ Extern.findNext fn = none := by
  unfold Extern.find Extern.findNext
  rw [hn, ho]
  exact ⟨rfl, rfl⟩
theorem find_count {fn : Func} (hn : fn.name = "internal/bytealg.CountString") (ho : fn.origin = "") : Extern.find fn = some Extern.BytealgCount.count ∧ Extern.findNext fn = none := by
  unfold Extern.find Extern.findNext
  rw [hn, ho]
  exact ⟨rfl, rfl⟩

def kextF (fn : Func) (args : List IV) (h : H) : Option (IV × H) := match fn.body with
  | some _ => none
  | none => bif fn.name == "runtime.NumGoroutine" then none else bif fn.origin == "" then
      bif fn.name == "maps.clone" then match args with
        | [.iface t (.map b)] => match h.get b with
          | some (.map es c, _) => some (.iface t (.map h.next), h.new (.map es c))
          | _ => none
        | _ => none
      else bif fn.name == "internal/bytealg.CountString" then match args with
        | [.str s, .int .u8 c] => some (.int .i64 (Go.Lib.countByte s c.toNat.toUInt8), h)
        | _ => none
      else none
    else none

theorem kext_run {P : Program} {w0 : World} {E : Env} {h : H} {w : World} (hr : Rel P w0 E h w) {f : FuncId} {fn : Func} (hf : P.funcs[f]? = some fn) {args : List IV} {v : IV} {h' : H} (e : kextF fn args h = some (v, h')) :
    ∃ w' E', (callFunc f (denL E args).toArray).run P w = .ok (.value (v.den E')) w' ∧ Rel P w0 E' h' w' ∧ Step E h E' h' ∧ v.under h'.next := by
  unfold kextF at e
  split at e
  · cases e
  rename_i hb
  cases h1 : fn.name == "runtime.NumGoroutine" with
  | true => rw [h1] at e; cases e
  | false =>
    rw [h1] at e
    simp only [cond_false] at e
    cases h2 : fn.origin == "" with
    | false => rw [h2] at e; cases e
    | true =>
      rw [h2] at e
      simp only [cond_true] at e
      have ho : fn.origin = "" := by simpa using h2
      cases h3 : fn.name == "maps.clone" with
      | true =>
        rw [h3] at e
        simp only [cond_true] at e
        have hn : fn.name = "maps.clone" := by simpa using h3
        obtain ⟨q1, q2⟩ := find_clone hn ho
        split at e
        case h_2 => cases e
        rename_i t b
        split at e
        case h_2 => cases e
        rename_i es c wr hg
        cases e
        have hm := hr.map hg
        have hO := ORel.mono (i := b) (ob := some (.map (es.map (entryDen E)).toArray c)) (o := .map es c) (P := P) (E := E) (n := h.next) (n' := h.next + 1) ⟨rfl, hm.2⟩ (Env.bind_ext E h.next w.heap.size 0) (hr.dom _ _ hg) (Nat.le_succ _)
        have hn2 := hr.new (o := .map es c) (ob := .map (es.map (entryDen E)).toArray c) 0 (w' := w.alloc (.map (es.map (entryDen E)).toArray c)) rfl hO
        refine ⟨_, _, ?_, hn2.1, hn2.2, by simp [IV.under]⟩
        rw [run_callFunc_extern hf h1 (by simp [hb]) q2 q1]
        have : (denL E [IV.iface t (.map b)]).toArray = #[.iface t (.map (some (E.ρ b)))] := by simp [denL, IV.den]
        rw [this]
        have hcl : Extern.MapsClone.clone #[.iface t (.map (some (E.ρ b)))] = (do
            let o ← getObj (E.ρ b)
            match o with
            | .map entries clock => (do let r ← newObj (.map entries clock); pure (.iface t (.map (some r))))
            | _ => stuck "maps.clone: a map expected") := rfl
        rw [hcl]
        simp only [Sem.run_bind, hm.1, Result.andThen_ok]
        simp [IV.den, bind_at]
      | false =>
        rw [h3] at e
        simp only [cond_false] at e
        cases h4 : fn.name == "internal/bytealg.CountString" with
        | false => rw [h4] at e; cases e
        | true =>
          rw [h4] at e
          simp only [cond_true] at e
          have hn : fn.name = "internal/bytealg.CountString" := by simpa using h4
          obtain ⟨q1, q2⟩ := find_count hn ho
          split at e
          case h_2 => cases e
          rename_i s c
          cases e
          refine ⟨w, E, ?_, hr, Step.refl _ _, by simp [IV.under]⟩
          rw [run_callFunc_extern hf h1 (by simp [hb]) q2 q1]
          have : (denL E [IV.str s, IV.int .u8 c]).toArray = #[.string ⟨s.toArray⟩, .int .u8 c] := by simp [denL, IV.den]
          rw [this, Go.Lib.run_countString]
          simp [IV.den]
end Sx
