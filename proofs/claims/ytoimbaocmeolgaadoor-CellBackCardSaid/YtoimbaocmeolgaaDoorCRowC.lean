/- PROVED: the tied card of CellBack: it returns true, and what it is handed reads as it did: for every kind, every body, every place and byte, and all other bytes, at every start at which the three variables that the row lists (errors.errorType, utf8.first, utf8.acceptRanges) hold what the program's text lays in it, in every order of evaluation that Go leaves open. Conditions: those variables' values, which the card ties to the text. (The row's end is after the kit's worked examples ToyasProofs and ToyasCard.) -/
import Derived.Test.YtoimbaocmeolgaaDoorCRow
import Derived.Test.YtoimbaocmeolgaaDoorCLawD
namespace Go.Proofs.YtoimbaocmeolgaaDoor.Back
open Go Sx Go.ChangeShapes Go.WideShapes Go.RowKit Go.Proofs.YtoimbaocmeolgaaDoor
open Go.ChangeMaps (open_string shut_string)

theorem laidOut : laidOutB Tryd.prog = true := by kernel_rfl
theorem ct35 : Tryd.prog.cellTypes Tryd.prog.depth 35 = some [33, 5, 9] := by kernel_rfl
theorem co35 : Tryd.prog.cellsOf 35 = 3 := by kernel_rfl
theorem u8_of {n : Int} (h : (Lit.int .u8 n).wf = true) : 0 ≤ n ∧ n < 256 := by
  simp only [Lit.wf, IntKind.min, IntKind.max, IntKind.signed, IntKind.bits] at h
  simp at h
  omega
set_option maxRecDepth 100000 in
/-- A Turn that is handed in. -/
theorem turn_ok {w : World} {r : Reach} {base : Nat} {v : Value} (h : Value.okWide Tryd.prog w r base 35 v) : ∃ a b o, v = .agg #[.int .u16 a, .int .u8 b, .string o] ∧ (0 ≤ a ∧ a < 65536) ∧ (0 ≤ b ∧ b < 256) := by
  simp only [Value.okWide, Tryd.underlying35] at h
  obtain ⟨cs, rfl, hsz, ts, hts, _, hc⟩ := h
  rw [ct35] at hts
  obtain rfl := Option.some.inj hts
  rw [co35] at hsz
  obtain ⟨u0, e0, k0⟩ := hc 0 (cs[0]'(by omega)) (Array.getElem?_eq_getElem _)
  obtain ⟨u1, e1, k1⟩ := hc 1 (cs[1]'(by omega)) (Array.getElem?_eq_getElem _)
  obtain ⟨u2, e2, k2⟩ := hc 2 (cs[2]'(by omega)) (Array.getElem?_eq_getElem _)
  obtain rfl : u0 = 33 := by simpa using e0.symm
  obtain rfl : u1 = 5 := by simpa using e1.symm
  obtain rfl : u2 = 9 := by simpa using e2.symm
  have hcs : cs = #[cs[0]'(by omega), cs[1]'(by omega), cs[2]'(by omega)] := by
    apply Array.ext
    · simp [hsz]
    · intro i h1 h2
      rcases i with _ | _ | _ | i
      · rfl
      · rfl
      · rfl
      · omega
  generalize cs[0]'(by omega) = c0 at hcs k0
  generalize cs[1]'(by omega) = c1 at hcs k1
  generalize cs[2]'(by omega) = c2 at hcs k2
  simp only [Cell.okWide, Tryd.underlying33] at k0
  simp only [Cell.okWide, Tryd.underlying5] at k1
  simp only [Cell.okWide, Tryd.underlying9] at k2
  cases c0 <;> simp only [Cell.ok, Tryd.underlying33] at k0
  cases c1 <;> simp only [Cell.ok, Tryd.underlying5] at k1
  cases c2 <;> simp only [Cell.ok, Tryd.underlying9] at k2
  obtain ⟨rfl, q0⟩ := k0
  obtain ⟨rfl, q1⟩ := k1
  simp only [IntKind.has, IntKind.min, IntKind.max, IntKind.signed, IntKind.bits] at q0 q1
  simp at q0 q1
  exact ⟨_, _, _, congrArg Value.agg hcs, by omega, by omega⟩

set_option maxRecDepth 100000 in
theorem law_lifted (os : Os) (started : os.Started) (H : Type) (enc : TypeId × Value → H) :
    ReturnsInHanded {} Tryd.checked os 5 .any (fun w args => (Rows.cellBackSpec.pre enc Tryd.prog Tryd.f5 [] false w args ∧ laidMetH Tryd.prog laids w) ∧ sizedMet enc Tryd.prog Tryd.f5 (OpenSpec.ofChange Rows.cellBackSpec) false w args)
      (Rows.cellBackSpec.post enc Tryd.prog Tryd.f5 false true false false) := by
  refine returnsInHanded_of_change_and (C := Tryd.checked) (X := fun w _ => laidMetH Tryd.prog laids w) (fun _ _ _ hh h => h.of_heap hh) own started (by kernel_rfl) Tryd.func5
    (ChangeSpec.witness_at (enc := enc) (C := Tryd.checked) (os := os) (X := fun w _ => laidMetH Tryd.prog laids w) false (laidWorld os) #[.int .u8 0, .string ⟨#[]⟩, .agg #[.int .u16 0, .int .u8 0, .string ⟨#[]⟩]] 8 rfl (by kernel_rfl) (by kernel_rfl) (by kernel_rfl) (by kernel_rfl) (by kernel_rfl) (laidWorld_met os _)) ?_
  intro W base args ds gs before hval0 hW _ _ hL _
  have hval : ∀ (j : Nat) t v, Tryd.f5.params[j]? = some t → args[j]? = some v → Value.okWide Tryd.prog W .any base t v := hval0
  have hW' := hW
  obtain ⟨p, q, hA0, hV0, rfl, hfz, hnd⟩ := hW
  have hA : DataW.TrodAll enc Tryd.prog W 0 (fun _ => true) true Tryd.f5.params.toList args.toList ds p := hA0
  have hV : DataW.TrodVars enc Tryd.prog W (fun _ => true) [] gs q := hV0
  rw [Tryd.params5] at hA hval
  obtain ⟨v0, v1, v2, d0, d1, d2, p0, p1, p2, rfl, rfl, rfl, h0, h1, h2⟩ := trodAll_three hA
  have hg := handle_of_laid hL
  obtain ⟨rfl, rfl⟩ : gs = [] ∧ q = [] := by
    cases gs with
    | nil => exact ⟨rfl, hV⟩
    | cons g r => exact absurd hV (by intro h; cases h)
  obtain ⟨n, rfl, rfl, rfl, wn⟩ := open_int Tryd.underlying5 (hval 0 5 v0 rfl rfl) h0
  obtain ⟨s, rfl, rfl, rfl, hs⟩ := open_string Tryd.underlying9 (hval 1 9 v1 rfl rfl) h1
  obtain ⟨a, b, o, rfl, ha, hbb⟩ := turn_ok (hval 2 35 v2 rfl rfl)
  have hn := u8_of wn
  have hc := calls_of_sp (f := 5) (args := [.int .u8 (n.toNat : Nat), .str s.data.toList, .agg [.int .u16 (a.toNat : Nat), .int .u8 ((UInt8.ofNat b.toNat).toNat : Nat), .str o.data.toList]]) (by simp [underL, IV.under]) hg
    (back_sp n.toNat a.toNat s.data.toList o.data.toList (UInt8.ofNat b.toNat) (by omega) (by omega))
  have hargs : (denL (⟨fun _ => 0, id⟩ : Env) [.int .u8 (n.toNat : Nat), .str s.data.toList, .agg [.int .u16 (a.toNat : Nat), .int .u8 ((UInt8.ofNat b.toNat).toNat : Nat), .str o.data.toList]]).toArray = #[Value.int .u8 n, .string s, .agg #[.int .u16 a, .int .u8 b, .string o]] := by
    have e1 : ((n.toNat : Nat) : Int) = n := by omega
    have e2 : ((a.toNat : Nat) : Int) = a := by omega
    have e3 : (((UInt8.ofNat b.toNat).toNat : Nat) : Int) = b := by rw [UInt8.toNat_ofNat', Nat.mod_eq_of_lt (by omega)]; omega
    simp only [denL, IV.den, e1, e2, e3]
  rw [hargs] at hc
  have hlt : ∀ x ∈ p2, x.block < W.heap.size := fun x hx => by simpa using hW'.lt x (by simp [hx])
  refine hc.mono fun e W' ⟨he, hb⟩ => ?_
  subst he
  refine ⟨_, rfl, _, _, _, [], p2, [], hW', ?_, ?_, ?_, hb.frame _, fun h => by cases h⟩
  · exact trodAll_mk1 (shut_bool Tryd.underlying4 true)
  · exact trodAll_mk3 (p := []) (p' := []) (shut_int Tryd.underlying5 wn) (shut_string Tryd.underlying9 hs) (Below.trod laidOut (by kernel_rfl) (of_decide_eq_true (by kernel_rfl)) h2 hb hlt)
  · rfl

theorem f_holds : Rows.CellBackSaid :=
  OpenClaim.holds_of_wide 5 Tryd.f5 rfl rfl rfl rfl rfl rfl rfl ⟨rfl, rfl, rfl, rfl, rfl⟩ rfl rfl rfl rfl rfl (by kernel_rfl) Tryd.func5 (by kernel_rfl)
    (of_decide_eq_true (by kernel_rfl)) (by unfold Func.isWrapper; rw [if_neg (of_decide_eq_false (by kernel_rfl))]; exact ⟨rfl, rfl⟩)
    (fun os started H enc _ => law_lifted os started H enc)

theorem back_holds : Rows.CellBackCardSaid :=
  Claim7.holds_tied_plain_at .later [] [.data, .handle, .pinned] true (true, "27859300ff4965ba35a1179e86e8d823e83aebb2a9d46a20f630b7d1065aba94") true
    f_holds (fun _ h => by cases h) (by kernel_rfl) (fun _ h => by cases h) cellBack_row_tie rfl ⟨rfl, rfl⟩ (by kernel_rfl) rfl
    (fun f fn hf hfn => by
      obtain rfl : f = 5 := Option.some.inj ((show Tryd.prog.funcNamed "foyer/foyerlaw07.CellBack" = some 5 by kernel_rfl).symm.trans hf) |>.symm
      obtain rfl : fn = Tryd.f5 := (Option.some.inj (Tryd.func5.symm.trans hfn)).symm
      exact ⟨by kernel_rfl, fun j t ht => by
        rw [Tryd.params5] at ht
        have hm := Array.mem_of_getElem? ht
        simp only [List.mem_toArray, List.mem_cons, List.not_mem_nil, or_false] at hm
        rcases hm with rfl | rfl | rfl
        · show Tryd.prog.wantsStandIn 5 = false; kernel_rfl
        · show Tryd.prog.wantsStandIn 9 = false; kernel_rfl
        · show Tryd.prog.wantsStandIn 35 = false; kernel_rfl⟩)
    (by kernel_rfl)
end Go.Proofs.YtoimbaocmeolgaaDoor.Back

namespace Go.Proofs.YtoimbaocmeolgaaDoor
/-- ████ THE STATEMENT ████ -/
theorem back_card_holds : Rows.CellBackCardSaid := Back.back_holds
#print axioms back_card_holds
end Go.Proofs.YtoimbaocmeolgaaDoor
