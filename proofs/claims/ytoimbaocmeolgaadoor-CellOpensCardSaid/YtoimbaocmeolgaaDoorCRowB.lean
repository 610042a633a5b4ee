/- PROVED: the tied card of CellOpens: it returns true, and what it is handed reads as it did: for every string, at every start at which the three variables that the row lists (errors.errorType, utf8.first, utf8.acceptRanges) hold what the program's text lays in it, in every order of evaluation that Go leaves open. Conditions: those variables' values, which the card ties to the text. (The row's end is after the kit's worked examples ToyasProofs and ToyasCard.) -/
import Derived.Test.YtoimbaocmeolgaaDoorCRow
import Derived.Test.YtoimbaocmeolgaaDoorCLawB
namespace Go.Proofs.YtoimbaocmeolgaaDoor.Opens
open Go Sx Go.ChangeShapes Go.WideShapes Go.RowKit Go.Proofs.YtoimbaocmeolgaaDoor
open Go.ChangeMaps (open_string shut_string)

set_option maxRecDepth 100000 in
theorem law_lifted (os : Os) (started : os.Started) (H : Type) (enc : TypeId × Value → H) :
    ReturnsInHanded {} Tryd.checked os 4 .any (fun w args => (Rows.cellOpensSpec.pre enc Tryd.prog Tryd.f4 [] false w args ∧ laidMetH Tryd.prog laids w) ∧ sizedMet enc Tryd.prog Tryd.f4 (OpenSpec.ofChange Rows.cellOpensSpec) false w args)
      (Rows.cellOpensSpec.post enc Tryd.prog Tryd.f4 false true false false) := by
  refine returnsInHanded_of_change_and (C := Tryd.checked) (X := fun w _ => laidMetH Tryd.prog laids w) (fun _ _ _ hh h => h.of_heap hh) own started (by kernel_rfl) Tryd.func4
    (ChangeSpec.witness_at (enc := enc) (C := Tryd.checked) (os := os) (X := fun w _ => laidMetH Tryd.prog laids w) false (laidWorld os) #[.string ⟨#[]⟩] 8 rfl (by kernel_rfl) (by kernel_rfl) (by kernel_rfl) (by kernel_rfl) (by kernel_rfl) (laidWorld_met os _)) ?_
  intro W base args ds gs before hval0 hW _ _ hL _
  have hval : ∀ (j : Nat) t v, Tryd.f4.params[j]? = some t → args[j]? = some v → Value.okWide Tryd.prog W .any base t v := hval0
  have hW' := hW
  obtain ⟨p, q, hA0, hV0, rfl, hfz, hnd⟩ := hW
  have hA : DataW.TrodAll enc Tryd.prog W 0 (fun _ => true) true Tryd.f4.params.toList args.toList ds p := hA0
  have hV : DataW.TrodVars enc Tryd.prog W (fun _ => true) [] gs q := hV0
  rw [Tryd.params4] at hA hval
  obtain ⟨v0, d0, rfl, rfl, h0⟩ := trodAll_one hA
  have hg := handle_of_laid hL
  obtain ⟨rfl, rfl⟩ : gs = [] ∧ q = [] := by
    cases gs with
    | nil => exact ⟨rfl, hV⟩
    | cons g r => exact absurd hV (by intro h; cases h)
  obtain ⟨s, rfl, rfl, rfl, hs⟩ := open_string Tryd.underlying9 (hval 0 9 v0 rfl rfl) h0
  have hc := calls_of_sp (f := 4) (args := [.str s.data.toList]) (by simp [underL, IV.under]) hg (opens_sp s.data.toList)
  have hargs : (denL (⟨fun _ => 0, id⟩ : Env) [.str s.data.toList]).toArray = #[Value.string s] := by simp [denL, IV.den]
  rw [hargs] at hc
  refine hc.mono fun e W' ⟨he, hb⟩ => ?_
  subst he
  refine ⟨_, rfl, _, _, _, [], [], [], hW', ?_, ?_, ?_, hb.frame _, fun h => by cases h⟩
  · exact trodAll_mk1 (shut_bool Tryd.underlying4 true)
  · exact trodAll_mk1 (shut_string Tryd.underlying9 hs)
  · rfl

theorem f_holds : Rows.CellOpensSaid :=
  OpenClaim.holds_of_wide 4 Tryd.f4 rfl rfl rfl rfl rfl rfl rfl ⟨rfl, rfl, rfl, rfl, rfl⟩ rfl rfl rfl rfl rfl (by kernel_rfl) Tryd.func4 (by kernel_rfl)
    (of_decide_eq_true (by kernel_rfl)) (by unfold Func.isWrapper; rw [if_neg (of_decide_eq_false (by kernel_rfl))]; exact ⟨rfl, rfl⟩)
    (fun os started H enc _ => law_lifted os started H enc)

theorem opens_holds : Rows.CellOpensCardSaid :=
  Claim7.holds_tied_plain_at .later [] [.data, .handle, .pinned] true (true, "27859300ff4965ba35a1179e86e8d823e83aebb2a9d46a20f630b7d1065aba94") true
    f_holds (fun _ h => by cases h) (by kernel_rfl) (fun _ h => by cases h) cellOpens_row_tie rfl ⟨rfl, rfl⟩ (by kernel_rfl) rfl
    (fun f fn hf hfn => by
      obtain rfl : f = 4 := Option.some.inj ((show Tryd.prog.funcNamed "foyer/foyerlaw07.CellOpens" = some 4 by kernel_rfl).symm.trans hf) |>.symm
      obtain rfl : fn = Tryd.f4 := (Option.some.inj (Tryd.func4.symm.trans hfn)).symm
      exact ⟨by kernel_rfl, fun j t ht => by
        rw [Tryd.params4] at ht
        have hm := Array.mem_of_getElem? ht
        simp only [List.mem_toArray, List.mem_cons, List.not_mem_nil, or_false] at hm
        subst hm
        show Tryd.prog.wantsStandIn 9 = false; kernel_rfl⟩)
    (by kernel_rfl)
end Go.Proofs.YtoimbaocmeolgaaDoor.Opens

namespace Go.Proofs.YtoimbaocmeolgaaDoor
/-- ████ THE STATEMENT ████ -/
theorem opens_card_holds : Rows.CellOpensCardSaid := Opens.opens_holds
#print axioms opens_card_holds
end Go.Proofs.YtoimbaocmeolgaaDoor
