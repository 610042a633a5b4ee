/- alike: the program's Open and the reference's tell the same of any bytes. -/
import Derived.Test.YtoimbaocmeolgaaDoorCRefB
namespace Go.Proofs.YtoimbaocmeolgaaDoor
open Go Sx Go.RowKit

/-- The start, behind one block that is forgotten. -/
def hK : H := ⟨.node (.node .leaf .leaf none) .leaf (some (.glob 0 109 3 37, false)), 2⟩
theorem hK_one (i : Nat) (y : Bx × Bool) (h : hK.get i = some y) : i = 0 ∧ y = (.glob 0 109 3 37, false) := by
  unfold hK H.get Tr.get at h
  by_cases h0 : i = 0
  · subst h0; exact ⟨rfl, (Option.some.inj h).symm⟩
  · rw [beqE, decide_eq_false h0] at h
    simp only [cond_false] at h
    cases hb : Nat.beq (i % 2) 1 with
    | false => rw [hb] at h; simp [Tr.get] at h
    | true =>
      rw [hb] at h
      simp only [cond_true, Tr.get] at h
      cases hc : Nat.beq (i / 2) 0 with
      | true => rw [hc] at h; cases h
      | false => rw [hc] at h; cases hd : Nat.beq (i / 2 % 2) 1 <;> (rw [hd] at h; simp [Tr.get] at h)

noncomputable def keepK (n f : Nat) (args : List IV) (u : IV) : Bool := match knth Tryd.prog.funcs.toList f with
  | some fn => match kfun tab (kmach Tryd.prog tab answersW n) fn args hK with
    | some (v, h') => v.same u && (match kget h'.t 0 with
      | some (.glob g rt ng t, false) => Nat.beq g 0 && Nat.beq rt 109 && Nat.beq ng 3 && Nat.beq t 37
      | _ => false)
    | none => false
  | none => false
theorem keepK_sp {n f : Nat} {args : List IV} {u : IV} (hu : u.flat = true) (hc : keepK n f args u = true) : SpEq Tryd.prog f args hK u hK := by
  unfold keepK at hc
  rw [knth_eq, Array.getElem?_toList] at hc
  split at hc
  case h_2 => cases hc
  rename_i fn hf
  split at hc
  case h_2 => cases hc
  rename_i v h' hrun
  simp only [Bool.and_eq_true] at hc
  have hv := IV.same_eq _ _ hc.1
  subst hv
  refine Sp.forget hu (Sp.mono (run_sound tab_ok mixed answersW_ok.1 answersW_ok.2 hf hrun) ?_)
  rintro v2 h2 ⟨rfl, rfl⟩
  refine ⟨rfl, fun i x hi => ?_⟩
  obtain ⟨rfl, rfl⟩ := hK_one i x hi
  have h2 := hc.2
  rw [kget_eq] at h2
  split at h2
  · next g rt ng t hg =>
    simp only [Bool.and_eq_true] at h2
    obtain ⟨⟨⟨e1, e2⟩, e3⟩, e4⟩ := h2
    have := beqT e1; have := beqT e2; have := beqT e3; have := beqT e4
    subst_vars
    exact hg
  · cases h2
theorem works_clK : ClEq Tryd.prog (.func (.func 9) [] []) [] hK (.bool true) hK := cl_of enters9 (keepK_sp (n := 100000) rfl (by kernel_rfl))

/-! ### Two faults that are one -/
noncomputable def fs49 : List Field := match (tab.get 49).map Ty.d with | some (TypeDesc.struct fs) => fs.toList | _ => []
theorem d49 : (tab.get 49).map (fun t => (t.d, t.eqok)) = some (.struct fs49.toArray, true) := by kernel_rfl
theorem f49 : fs49.map (fun f => (f.name, f.type, f.offset)) = [("Code", 22, 0), ("At", 3, 1)] := by kernel_rfl
theorem d22 : (tab.get 22).map Ty.d = some (.int .i64) := by kernel_rfl
theorem d3 : (tab.get 3).map Ty.d = some (.int .i64) := by kernel_rfl
theorem eqI_int {t n : Nat} {a : Int} (h : (tab.get t).map Ty.d = some (.int .i64)) : eqI tab (n + 1) t (.int .i64 a) (.int .i64 a) = some true := by
  unfold eqI
  cases ht : tab.get t with
  | none => rw [ht] at h; cases h
  | some ty =>
    rw [ht] at h
    simp only [Option.map_some, Option.some.injEq] at h
    simp only [h, if_true, beq_self_eq_true]
theorem part_int {t o : Nat} {cs : List IV} (h : (tab.get t).map Ty.d = some (.int .i64)) : partE tab t cs o = cs[o]? := by
  unfold partE
  cases ht : tab.get t with
  | none => rw [ht] at h; cases h
  | some ty =>
    rw [ht] at h
    simp only [Option.map_some, Option.some.injEq] at h
    simp only [h, aggD, cond_false]
theorem eq_fault (c a : Int) : binI tab .eql 49 (.tmp 0) (.tmp 0) (.agg [.int .i64 c, .int .i64 a]) (.agg [.int .i64 c, .int .i64 a]) = some (.bool true) := by
  have h1 := d49
  have h2 := f49
  simp only [binI]
  cases ht : tab.get 49 with
  | none => rw [ht] at h1; cases h1
  | some ty =>
    rw [ht] at h1
    simp only [Option.map_some, Option.some.injEq, Prod.mk.injEq] at h1
    simp only [h1.2, cond_true]
    rw [show eqI tab 9 49 (.agg [.int .i64 c, .int .i64 a]) (.agg [.int .i64 c, .int .i64 a]) = some true by
      rw [show (9 : Nat) = 8 + 1 from rfl]
      unfold eqI
      simp only [ht, h1.1, h1.2, cond_true]
      obtain ⟨f0, f1, hfs⟩ : ∃ f0 f1, fs49 = [f0, f1] := by
        generalize fs49 = l at h2
        cases l with
        | nil => exact absurd (congrArg List.length h2) (by simp)
        | cons f0 l =>
          cases l with
          | nil => exact absurd (congrArg List.length h2) (by simp)
          | cons f1 l =>
            cases l with
            | nil => exact ⟨f0, f1, rfl⟩
            | cons _ _ => exact absurd (congrArg List.length h2) (by simp)
      rw [hfs] at h2 ⊢
      · simp only [List.map_cons, List.map_nil, List.cons.injEq, Prod.mk.injEq, and_true] at h2
        obtain ⟨⟨n0, t0, o0⟩, n1, t1, o1⟩ := h2
        simp only [eqFs, n0, n1, t0, t1, o0, o1, part_int d22, part_int d3]
        simp [eqI_int (n := 7) d22, eqI_int (n := 7) d3]]
    rfl

/-! ### A fault -/
def h1F (c a : Int) : H := hK.new (.cells [.int .i64 c, .int .i64 a] 49)
def hxF (c a : Int) : H := (((h1F c a).new (.cells [.int .i64 c, .int .i64 a] 49)).new (.cells [.int .i64 c, .int .i64 a] 49)).new (.cells [.nilptr] 62)
def hyF (c a : Int) : H := (hxF c a).put 5 (.cells [.ptr 2 0] 62)
def oc10 (c a : Int) : Nat → Nat → Option It := fun f t => match f, t with
  | 10, 11 => some (.c (flt 2) (h1F c a))
  | 10, 17 => some (.c (rv 0 [] c a) (h1F c a))
  | 18, 11 => some (.w (.bool false))
  | 18, 22 => some (.c (.bool true) (hyF c a))
  | 18, 28 => some (.o (.bool true))
  | 18, 35 => some (.c (.bool true) (hyF c a))
  | _, _ => none
theorem run10 (s : List UInt8) (c a : Int) : pfG Tryd.prog tab (oc10 c a) 60 10 [.str s] hK 0 = some (.bool true, some (.glob 0 109 3 37, false), [
  ClEq Tryd.prog (.func (.func 13) [] []) [.str s] hK (flt 2) (h1F c a),
  ClEq Tryd.prog (.func (.func 17) [] []) [.str s] (h1F c a) (rv 0 [] c a) (h1F c a),
  IV.bool (c == 0) = .bool false,
  ClEq Tryd.prog (.func (.func 32) [] []) [.iface 62 (.ptr 2 0), .iface 64 (.ptr 5 0)] (hxF c a) (.bool true) (hyF c a),
  binI tab .eql 49 (.tmp 0) (.tmp 0) (.agg [.int .i64 c, .int .i64 a]) (.agg [.int .i64 c, .int .i64 a]) = some (.bool true),
  ClEq Tryd.prog (.func (.func 33) [] []) [.iface 62 (.ptr 2 0), .iface 22 (.int .i64 c)] (hyF c a) (.bool true) (hyF c a)]) := by kernel_rfl
theorem as_cl (c a : Int) : ClEq Tryd.prog (.func (.func 32) [] []) [.iface 62 (.ptr 2 0), .iface 64 (.ptr 5 0)] (hxF c a) (.bool true) (hyF c a) :=
  cl_of enters_As ((asS_sound as_c enters_As).1 32 [.iface 62 (.ptr 2 0), .iface 64 (.ptr 5 0)] (hxF c a) (.bool true) (hyF c a) (by kernel_rfl))
theorem is_cl {c : Int} (hc : c = 2 ∨ c = 8 ∨ c = 6 ∨ c = 4 ∨ c = 5) (a : Int) : ClEq Tryd.prog (.func (.func 33) [] []) [.iface 62 (.ptr 2 0), .iface 22 (.int .i64 c)] (hyF c a) (.bool true) (hyF c a) := by
  refine cl_of enters_Is ((isS_sound is_c enters_Is).1 33 [.iface 62 (.ptr 2 0), .iface 22 (.int .i64 c)] (hyF c a) (.bool true) (hyF c a) ?_)
  rcases hc with rfl | rfl | rfl | rfl | rfl <;> kernel_rfl

/-! ### None -/
def oc10k (k : Nat) (body : List UInt8) : Nat → Nat → Option It := fun f t => match f, t with
  | 10, 11 => some (.c (.tup [.int .i64 k, .str body, .nilif]) hK)
  | 10, 17 => some (.c (rv k body 0 0) hK)
  | 10, 23 => some (.w (.bool true))
  | 10, 27 => some (.w (.bool true))
  | _, _ => none
theorem run10k (s body : List UInt8) (k : Nat) : pfG Tryd.prog tab (oc10k k body) 60 10 [.str s] hK 0 = some (.bool true, some (.glob 0 109 3 37, false), [
  ClEq Tryd.prog (.func (.func 13) [] []) [.str s] hK (.tup [.int .i64 k, .str body, .nilif]) hK,
  ClEq Tryd.prog (.func (.func 17) [] []) [.str s] hK (rv k body 0 0) hK,
  IV.bool ((k : Int) == k) = .bool true, IV.bool (body == body) = .bool true]) := by kernel_rfl

theorem enters10 : Go.Proofs.Enters Tryd.prog 10 := Go.Proofs.enters_of Tryd.func10 (by kernel_rfl) rfl
theorem alike_cl (s : List UInt8) : ClEq Tryd.prog (.func (.func 10) [] []) [.str s] hK (.bool true) hK := by
  rcases open_both s with ⟨c, a, hc, ht, hr⟩ | ⟨k, body, ho, hr⟩
  · refine cl_of enters10 (Sp.pxG tab_ok mixed rfl hK_one (run10 s c a) ⟨ht hK, hr _, ?_, as_cl c a, eq_fault c a, is_cl hc a, trivial⟩)
    rw [beqz (by omega)]
  · exact cl_of enters10 (Sp.pxG tab_ok mixed rfl hK_one (run10k s body k) ⟨ho hK, hr _, by simp, by simp, trivial⟩)
end Go.Proofs.YtoimbaocmeolgaaDoor
