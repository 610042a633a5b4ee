/- The examples of the chapter (works): they hold, at the start that the row lists. -/
import Derived.Test.YtoimbaocmeolgaaDoorCSealB
import Derived.Test.YtoimbaocmeolgaaDoorFactsA
namespace Go.Proofs.YtoimbaocmeolgaaDoor
open Go Sx Go.RowKit

noncomputable def factsW : List Fact := [s0, s1]
theorem factsW_hold : ∀ k ∈ factsW, k.Holds Tryd.prog := by
  intro k hk
  simp only [factsW, List.mem_cons, List.not_mem_nil, or_false] at hk
  rcases hk with rfl | rfl
  · exact s0_holds
  · exact s1_holds
noncomputable def answersW : Short := orS (asS 32 62 64 0 109 3 37) (orS (isS 33 62 22) (shortOf factsW))
theorem answersW_ok : SoundS Tryd.prog answersW ∧ BodyS Tryd.prog answersW := orS_sound (asS_sound as_c enters_As) (orS_sound (isS_sound is_c enters_Is) (shortOf_sound factsW_hold))

def hG : H := globH 0 109 3 37
/-- The check of a pure call at the start. -/
noncomputable def keepB (n f : Nat) (args : List IV) (u : IV) : Bool := match knth Tryd.prog.funcs.toList f with
  | some fn => match kfun tab (kmach Tryd.prog tab answersW n) fn args hG with
    | some (v, h') => v.same u && (match kget h'.t 0 with
      | some (.glob g rt ng t, false) => Nat.beq g 0 && Nat.beq rt 109 && Nat.beq ng 3 && Nat.beq t 37
      | _ => false)
    | none => false
  | none => false
theorem keep_sp {n f : Nat} {args : List IV} {u : IV} (hu : u.flat = true) (hc : keepB n f args u = true) : SpEq Tryd.prog f args hG u hG := by
  unfold keepB at hc
  rw [knth_eq, Array.getElem?_toList] at hc
  split at hc
  case h_2 => cases hc
  rename_i fn hf
  split at hc
  case h_2 => cases hc
  rename_i v h' hrun
  simp only [Bool.and_eq_true] at hc
  have hv := IV.same_eq _ _ hc.1
  subst hv
  refine Sp.forget hu (Sp.mono (run_sound tab_ok mixed answersW_ok.1 answersW_ok.2 hf hrun) ?_)
  rintro v2 h2 ⟨rfl, rfl⟩
  refine ⟨rfl, fun i x hi => ?_⟩
  rw [hG, globH_get] at hi
  split at hi
  case isFalse => cases hi
  next h0 =>
    subst h0
    cases hi
    have h2 := hc.2
    rw [kget_eq] at h2
    split at h2
    · next g rt ng t hg =>
      simp only [Bool.and_eq_true] at h2
      obtain ⟨⟨⟨e1, e2⟩, e3⟩, e4⟩ := h2
      have := beqT e1; have := beqT e2; have := beqT e3; have := beqT e4
      subst_vars
      exact hg
    · cases h2
theorem enters9 : Go.Proofs.Enters Tryd.prog 9 := Go.Proofs.enters_of Tryd.func9 (by kernel_rfl) rfl
theorem works_cl : ClEq Tryd.prog (.func (.func 9) [] []) [] hG (.bool true) hG := cl_of enters9 (keep_sp (n := 100000) rfl (by kernel_rfl))
end Go.Proofs.YtoimbaocmeolgaaDoor
