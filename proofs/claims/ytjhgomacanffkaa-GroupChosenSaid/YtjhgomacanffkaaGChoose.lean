/- slices.Sort and group.Choose as contracts. -/
import Derived.Test.YtjhgomacanffkaaGBase
import Derived.Test.YtjhgomacanffkaaShelf
import Derived.Test.YtjhgomacanffkaaGSearch
namespace Go.Proofs.Ytjhgomacanffkaa
open Go Sx Go.RowKit

theorem Rel.later {P : Program} {w0 w w' : World} {E : Env} {h : H} (hr : Rel P w0 E h w) (ho : w'.os = w.os) (ht : w'.tape = w.tape) (hu : w'.output = w.output) (hs : w.heap.size ≤ w'.heap.size)
    (hk : ∀ k, k < w.heap.size → w'.heap[k]? = w.heap[k]?) : Rel P w0 E h w' := by
  refine ⟨hr.below.trans ⟨ho, ht, hu, hs, fun k hk' => hk k (Nat.lt_of_lt_of_le hk' hr.below.size)⟩, hr.dom, fun i o wr hi => ?_, hr.wr, hr.inj⟩
  obtain ⟨a, b⟩ := hr.obj i o wr hi
  rw [hk _ b]
  exact ⟨a, Nat.lt_of_lt_of_le b hs⟩

def sorted (l : List Int) : List Int := l.mergeSort fun x y => decide (x ≤ y)

theorem sort_sp {h : H} {b : Nat} {zs : List Int} {e : TypeId} (hg : h.get b = some (.cells (ints zs) e, true)) (hl : zs.length < 1000) :
    SpEq Try.prog 18 [.slice b 0 zs.length (.soft 0)] h (.tup []) (h.put b (.cells (ints (sorted zs)) e)) := by
  intro w0 E w hr hu
  obtain ⟨⟨extra, lo, hh, h1, h2, h3, h4⟩, hlt⟩ := hr.obj _ _ _ hg
  have hH : Go.Sort.Holds (Value.int .i64) w (E.ρ b) 0 zs.toArray := by
    intro j hj
    have hj' : j < zs.length := by simpa using hj
    have hc : (ints zs)[j]? = some (.int .i64 zs[j]) := by simp [ints, hj']
    refine ⟨?_, ?_⟩
    · have := hr.cell hg hc
      rw [Nat.zero_add, this]
      simp [IV.den, hj']
    · have hlen : j < (denL E (ints zs) ++ extra).length := by rw [List.length_append, length_denL, ints_length]; omega
      have := h2 j hlen
      simp only [World.frozen?, h1]
      simp only [Nat.zero_add]
      simp
      omega
  have hcall := Try.slices_Sort_int (E.ρ b) 0 (E.κ b) zs w hH hlt (by omega)
  refine (callsIn_wide.2 hcall).mono ?_
  rintro ev w' ⟨rfl, n, os, rfl⟩
  have hsl : (zs.mergeSort fun x y => decide (x ≤ y)).length = zs.length := List.length_mergeSort zs
  have hcells : Go.Sort.putCells (Value.int .i64) 0 (zs.mergeSort fun x y => decide (x ≤ y)).toArray (denL E (ints zs) ++ extra).toArray = (denL E (ints (sorted zs)) ++ extra).toArray := by
    apply Array.ext'
    apply List.ext_getElem?
    intro j
    rw [denL_ints, denL_ints]
    simp only [Go.Sort.putCells, Nat.zero_le, true_and, Nat.zero_add, List.size_toArray, hsl, Nat.sub_zero, Array.getElem?_toList, Array.getElem?_mapIdx, List.getElem?_toArray, sorted]
    by_cases hj : j < zs.length
    · rw [List.getElem?_append_left (by simpa using hj), List.getElem?_append_left (by simpa [hsl] using hj)]
      simp [hj, hsl]
    · rw [List.getElem?_append_right (by simp; omega), List.getElem?_append_right (by simp [hsl]; omega)]
      simp [hsl, hj]
  have ho : ORel Try.prog E h.next b (.cells (ints (sorted zs)) e) (some (.cells (denL E (ints (sorted zs)) ++ extra).toArray e (lo, hh))) := by
    have hlen : (denL E (ints (sorted zs)) ++ extra).length = (denL E (ints zs) ++ extra).length := by
      simp [length_denL, ints_length, sorted, hsl]
    exact ⟨extra, lo, hh, rfl, by rw [hlen]; exact h2, underL_of_flat _ _ (flat_ints _), by rw [hlen]; exact h4⟩
  have hput := hr.put hg ho
  refine ⟨.tup [], h.put b (.cells (ints (sorted zs)) e), E, rfl, ?_, ⟨Ext.refl _ _, Nat.le_refl _⟩, by simp [IV.under, underL], rfl, rfl⟩
  refine Rel.later hput rfl rfl rfl ?_ ?_
  · simp [World.putObj, Go.Sort.grow, Go.Sort.putRow, Go.Sort.mapBlock, Go.Sort.ahead]
  · intro k hk
    simp only [World.putObj, Array.size_setIfInBounds] at hk
    rw [Go.Sort.heap_grow_old _ _ (by simpa [Go.Sort.putRow, Go.Sort.mapBlock, Go.Sort.ahead] using hk), putObj_get _ _ _ _ hlt]
    simp only [Go.Sort.putRow, Go.Sort.mapBlock, Go.Sort.ahead, Array.getElem?_modify]
    split
    · next hb => subst hb; rw [h1]; simp [Go.Sort.onCells, hcells]
    · rfl
end Go.Proofs.Ytjhgomacanffkaa
namespace Go.Proofs.Ytjhgomacanffkaa
open Go Sx Go.RowKit

noncomputable def l7 : List Code := flat (bodyC Try.prog 7)
theorem l7_eq : flat (bodyC Try.prog 7) = l7.take 3 ++ (.block 0 (.loop (loopAt l7 3)) :: l7.drop 4) := by kernel_rfl
theorem enters7 : Go.Proofs.Enters Try.prog 7 := Go.Proofs.enters_of Try.func7 (by kernel_rfl) rfl
theorem enters18 : Go.Proofs.Enters Try.prog 18 := Go.Proofs.enters_of Try.func18 (by kernel_rfl) rfl

def h7 (x : Bx) (hv : IV) (tk : Nat → Bool) : H := ((boxH [x]).new (.cells [hv] 24)).new (.cells (tkL tk) 25)
def oc7 (hv sv : IV) (tk : Nat → Bool) (sl : List Nat) (s k i : Nat) (cnt cls : Nat) (kc : Int) (h h2 h3 : H) (lv v2 : IV) (lt tb eq b1 b2 : Bool) : Nat → Nat → Option It := fun f t => match f, t with
  | 7, 15 => some (.c sv h)
  | 7, 16 => some (.g (.int .i64 (k : Nat)) h)
  | 7, 18 => some (.w (.bool lt))
  | 7, 19 => some (.o (.ptr 3 i))
  | 7, 20 => some (.l (.int .i64 (s : Nat)) (.cells (nints sl) 3, true))
  | 7, 22 => some (.o (.ptr 2 s))
  | 7, 23 => some (.l (.bool tb) (.cells (tkL tk) 25, true))
  | 7, 26 => some (.l (.agg [hv]) (.cells [hv] 24, true))
  | 7, 28 => some (.c (.int .i64 kc) h)
  | 7, 30 => some (.w (.bool eq))
  | 7, 33 => some (.w (.int .i64 ((cnt + 1 : Nat) : Int)))
  | 7, 34 => some (.w (.int .i64 ((i + 1 : Nat) : Int)))
  | 7, 36 => some (.w (.bool b1))
  | 7, 40 => some (.w (.bool b2))
  | 7, 42 => some (.l (.agg [hv]) (.cells [hv] 24, true))
  | 7, 43 => some (.l (.agg (tkL tk)) (.cells (tkL tk) 25, true))
  | 7, 46 => some (.c lv h2)
  | 7, 48 => some (.c (.tup []) h3)
  | _, _ => none

section
variable (x : Bx) (hv sv : IV) (tk : Nat → Bool) (c n : Int) (sl : List Nat) (s k i cnt cls : Nat) (kc : Int) (h h2 h3 : H) (lv : IV) (g : Nat → IV)
def lv7 (c n : Int) (cnt : Nat) (sv : IV) (k i : Nat) : List IV := [.int .i64 c, .int .i64 n, .ptr 1 0, .ptr 2 0, .int .i64 (cnt : Nat), sv, .int .i64 (k : Nat), .int .i64 (i : Nat)]
theorem pre7 : psR Try.prog tab (oc7 hv sv tk sl s k i cnt cls kc h h2 h3 lv lv true true true true true) 50 7 none 50 (l7.take 3) (canon 50 (fun j => [IV.agg [hv], .agg (tkL tk), .int .i64 c, .int .i64 n].getD j undefI) []) (boxH [x]) [2, 3, 4, 5, 10, 15, 16, 17] =
  some (.normal, lv7 c n 0 sv k 0, h, [], [ClEq Try.prog (.func (.func 15) [] []) [.agg [hv]] (h7 x hv tk) sv h, builtinI tab .len [27] [sv] h = some (.int .i64 (k : Nat), h)]) := by kernel_rfl
theorem r7_end : pxR Try.prog tab (oc7 hv sv tk sl s k i cnt cls kc h h2 h3 lv lv false true true true true) 50 7 none 50 (loopAt l7 3) (canon 50 (ov [2, 3, 4, 5, 10, 15, 16, 17] (lv7 c n cnt sv k i) g) []) h [2, 3, 4, 5, 10] =
  some (.exit 0, [.int .i64 c, .int .i64 n, .ptr 1 0, .ptr 2 0, .int .i64 (cnt : Nat)], h, [], [IV.bool (decide ((i : Int) < k)) = .bool false]) := by kernel_rfl
def o7 (tb : Bool) : List Prop := [IV.bool (decide ((i : Int) < k)) = .bool true, indexAddrI tab 27 sv (.int .i64 (i : Nat)) = some (.ptr 3 i), h.get 3 = some (.cells (nints sl) 3, true), ldX (.cells (nints sl) 3, true) false 1 i = some (.int .i64 (s : Nat)),
    indexAddrI tab 25 (.ptr 2 0) (.int .i64 (s : Nat)) = some (.ptr 2 s), h.get 2 = some (.cells (tkL tk) 25, true), ldX (.cells (tkL tk) 25, true) false 1 s = some (.bool tb)]
def o7b (eq : Bool) : List Prop := [h.get 1 = some (.cells [hv] 24, true), ldX (.cells [hv] 24, true) true 1 0 = some (.agg [hv]), ClEq Try.prog (.func (.func 16) [] []) [.agg [hv], .int .i64 (s : Nat)] h (.int .i64 kc) h, IV.bool (kc == c) = .bool eq]
def o7i : List Prop := [IV.int .i64 (IntKind.wrap .i64 ((i : Int) + 1)) = .int .i64 ((i + 1 : Nat) : Int)]
theorem r7_tk : pxR Try.prog tab (oc7 hv sv tk sl s k i cnt cls kc h h2 h3 lv lv true true true true true) 50 7 none 50 (loopAt l7 3) (canon 50 (ov [2, 3, 4, 5, 10, 15, 16, 17] (lv7 c n cnt sv k i) g) []) h [2, 3, 4, 5, 10, 15, 16, 17] =
  some (.normal, lv7 c n cnt sv k (i + 1), h, [], o7 sv tk sl s k i h true ++ o7i i) := by kernel_rfl
theorem r7_no : pxR Try.prog tab (oc7 hv sv tk sl s k i cnt cls kc h h2 h3 lv lv true false false true true) 50 7 none 50 (loopAt l7 3) (canon 50 (ov [2, 3, 4, 5, 10, 15, 16, 17] (lv7 c n cnt sv k i) g) []) h [2, 3, 4, 5, 10, 15, 16, 17] =
  some (.normal, lv7 c n cnt sv k (i + 1), h, [], o7 sv tk sl s k i h false ++ o7b hv c s kc h false ++ o7i i) := by kernel_rfl
theorem r7_yes : pxR Try.prog tab (oc7 hv sv tk sl s k i cnt cls kc h h2 h3 lv lv true false true true true) 50 7 none 50 (loopAt l7 3) (canon 50 (ov [2, 3, 4, 5, 10, 15, 16, 17] (lv7 c n cnt sv k i) g) []) h [2, 3, 4, 5, 10, 15, 16, 17] =
  some (.normal, lv7 c n (cnt + 1) sv k (i + 1), h, [], o7 sv tk sl s k i h false ++ o7b hv c s kc h true ++ [IV.int .i64 (IntKind.wrap .i64 ((cnt : Int) + 1)) = .int .i64 ((cnt + 1 : Nat) : Int)] ++ o7i i) := by kernel_rfl
theorem post7_lt : psR Try.prog tab (oc7 hv sv tk sl s k i cnt cls kc h h2 h3 lv lv true false true true true) 50 7 none 50 (l7.drop 4) (canon 50 (ov [2, 3, 4, 5, 10] [.int .i64 c, .int .i64 n, .ptr 1 0, .ptr 2 0, .int .i64 (cnt : Nat)] g) []) h [8, 9] =
  some (.ret, [.nilslice, .bool false], h, [], [IV.bool (decide (n < 1)) = .bool true]) := by kernel_rfl
theorem post7_gt : psR Try.prog tab (oc7 hv sv tk sl s k i cnt cls kc h h2 h3 lv lv true false true false true) 50 7 none 50 (l7.drop 4) (canon 50 (ov [2, 3, 4, 5, 10] [.int .i64 c, .int .i64 n, .ptr 1 0, .ptr 2 0, .int .i64 (cnt : Nat)] g) []) h [8, 9] =
  some (.ret, [.nilslice, .bool false], h, [], [IV.bool (decide (n < 1)) = .bool false, IV.bool (decide (n > cnt)) = .bool true]) := by kernel_rfl
theorem post7_go : psR Try.prog tab (oc7 hv sv tk sl s k i cnt cls kc h h2 h3 lv lv true false true false false) 50 7 none 50 (l7.drop 4) (canon 50 (ov [2, 3, 4, 5, 10] [.int .i64 c, .int .i64 n, .ptr 1 0, .ptr 2 0, .int .i64 (cnt : Nat)] g) []) h [8, 9] =
  some (.ret, [lv, .bool true], h3, [], [IV.bool (decide (n < 1)) = .bool false, IV.bool (decide (n > cnt)) = .bool false, h.get 1 = some (.cells [hv] 24, true), ldX (.cells [hv] 24, true) true 1 0 = some (.agg [hv]),
    h.get 2 = some (.cells (tkL tk) 25, true), ldX (.cells (tkL tk) 25, true) true 64 0 = some (.agg (tkL tk)), ClEq Try.prog (.func (.func 17) [] []) [.agg [hv], .agg (tkL tk), .int .i64 c, .int .i64 n] h lv h2,
    ClEq Try.prog (.func (.func 18) [] []) [lv] h2 (.tup []) h3]) := by kernel_rfl
end
end Go.Proofs.Ytjhgomacanffkaa
namespace Go.Proofs.Ytjhgomacanffkaa
open Go Sx Go.RowKit

theorem Sp.listB {P : Program} {f : FuncId} {args : List IV} {bs : List Bx} {k : Nat} {t : Bool} {cs : List IV} {e : TypeId} (hfl : bs.all Bx.flat = true) (ha : underLB bs.length args = true) (hfc : flatL cs = true)
    (hs : Sp P f args (boxH bs) fun v' h' => ∃ s, v' = .tup [slV s k, .bool t] ∧ (k = 0 ∨ (h'.get s = some (.cells cs e, true) ∧ bs.length ≤ s)) ∧ ∀ i y, (boxH bs).get i = some y → h'.get i = some y)
    {H0 : H} (g : Nat → Nat) (hblk : ∀ i o, bs[i]? = some o → ∃ wr, H0.get (g i) = some (o, wr))
    (hinj : ∀ i j, i < bs.length → j < bs.length → g i = g j → i = j) : SpEq P f (renL g args) H0 (.tup [slV H0.next k, .bool t]) (newL H0 k cs e) := by
  cases k with
  | zero =>
    refine Sp.bigF hfl ha (v := .tup [.nilslice, .bool t]) rfl (h' := boxH bs) (Sp.forget rfl (hs.mono ?_)) g hblk hinj
    rintro v h' ⟨s, rfl, _, h2⟩
    exact ⟨rfl, h2⟩
  | succ k =>
    refine Sp.bigN (v := .tup [.slice 0 0 (k + 1) (.soft 0), .bool t]) hfl ha (by simp [IV.under, underL]) hfc (Sp.keepOut hfc (by simp [IV.under, underL]) (hs.mono ?_)) g hblk hinj
    rintro v h' ⟨s, rfl, h1, h2⟩
    rcases h1 with h1 | h1
    · omega
    · exact ⟨s, rfl, h1.1, h1.2, h2⟩

theorem pw_inj : ∀ {S : List (Nat × Int)}, S.Pairwise (fun a b => a.1 < b.1) → ∀ a ∈ S, ∀ b ∈ S, a.1 = b.1 → a = b
  | [], _, a, ha, _, _, _ => nomatch ha
  | x :: S, h, a, ha, b, hb, e => by
    obtain ⟨h1, h2⟩ := List.pairwise_cons.1 h
    rcases List.mem_cons.1 ha with ea | ha' <;> rcases List.mem_cons.1 hb with eb | hb'
    · rw [ea, eb]
    · have := h1 b hb'; rw [ea] at e; omega
    · have := h1 a ha'; rw [eb] at e; omega
    · exact pw_inj h2 a ha' b hb' e
theorem clsOf_eq {S : List (Nat × Int)} (h : S.Pairwise fun a b => a.1 < b.1) {a : Nat × Int} (ha : a ∈ S) : clsOf S a.1 = a.2 := by
  unfold clsOf
  cases hf : S.find? fun b => b.1 == a.1 with
  | none =>
    have := List.find?_eq_none.1 hf a ha
    simp at this
  | some b =>
    have hb := List.mem_of_find?_eq_some hf
    have he := List.find?_some hf
    rw [pw_inj h b hb a ha (by simpa using he)]

def sortN (l : List Nat) : List Nat := l.mergeSort fun a b => decide (a ≤ b)
theorem sorted_nat (l : List Nat) : sorted (l.map fun (a : Nat) => (a : Int)) = (sortN l).map fun (a : Nat) => (a : Int) := by
  unfold sorted sortN
  rw [List.map_mergeSort]
  intro a _ b _
  rw [Bool.eq_iff_iff, decide_eq_true_iff, decide_eq_true_iff]
  omega
theorem sortN_length (l : List Nat) : (sortN l).length = l.length := List.length_mergeSort l
theorem mem_sortN {l : List Nat} {s : Nat} : s ∈ sortN l ↔ s ∈ l := List.mem_mergeSort
theorem sortN_perm (l : List Nat) : (sortN l).Perm l := List.mergeSort_perm l _

theorem sort_cl {h : H} {b : Nat} {l : List Nat} (hg : h.get b = some (.cells (nints l) 3, true)) (hl : l.length < 1000) :
    ClEq Try.prog (.func (.func 18) [] []) [.slice b 0 l.length (.soft 0)] h (.tup []) (h.put b (.cells (nints (sortN l)) 3)) := by
  refine Cl.of_sp (first := []) (cap := []) enters18 ?_
  rw [nints_eq] at hg
  have := sort_sp hg (by simpa using hl)
  rw [sorted_nat, ← nints_eq, List.length_map] at this
  exact this

def okP (rs : List (Int × Int)) (c : Int) (tk : Nat → Bool) (n : Int) : Bool := decide (1 ≤ n ∧ n ≤ (free rs c tk).length)
def chooseP (rs : List (Int × Int)) (c : Int) (tk : Nat → Bool) (n : Int) : List Nat := if 1 ≤ n ∧ n ≤ (free rs c tk).length then sortN (searchP rs c n.toNat tk n.toNat) else []

theorem free_le {rs : List (Int × Int)} (h8 : rs.length ≤ 8) (c : Int) (tk : Nat → Bool) : (free rs c tk).length ≤ 64 := by
  have h1 : (free rs c tk).length ≤ (allS rs 0).length := by
    unfold free
    rw [List.length_map]
    exact List.length_filter_le _ _
  have := allS_length rs 0
  omega

theorem choose_sp {x : Bx} {off nn : Nat} {cp : Cap} {rs : List (Int × Int)} (hx : HallX x off nn cp rs) (c n : Int) (tk : Nat → Bool) :
    Sp Try.prog 7 [.agg [.slice 0 off nn cp], .agg (tkL tk), .int .i64 c, .int .i64 n] (boxH [x]) fun v' h' => ∃ s, v' = .tup [slV s (chooseP rs c tk n).length, .bool (okP rs c tk n)] ∧
      ((chooseP rs c tk n).length = 0 ∨ (h'.get s = some (.cells (nints (chooseP rs c tk n)) 3, true) ∧ [x].length ≤ s)) ∧ ∀ i y, (boxH [x]).get i = some y → h'.get i = some y := by
  have h8 : rs.length ≤ 8 := by have := hx.len; omega
  have hSl := allS_length rs 0
  have hpw := allS_pw rs 0
  have hrange := allS_range rs 0
  let hv : IV := .slice 0 off nn cp
  have g0 : (h7 x hv tk).get 0 = some (x, false) := by kernel_rfl
  have q1 := seats_cl hx g0
  have hsl : ints ((allS rs 0).map fun a => (a.1 : Int)) = nints ((allS rs 0).map fun a => a.1) := by simp [ints, nints]
  rw [hsl] at q1
  have hsl2 : ((allS rs 0).map fun a => a.1).length = (allS rs 0).length := List.length_map _
  have hfree : (free rs c tk).length = ((allS rs 0).filter fun a => decide (a.2 = c ∧ tk a.1 = false)).length := by unfold free; rw [List.length_map]
  have hcls : ∀ a ∈ allS rs 0, clsOf (allS rs 0) a.1 = a.2 := fun a ha => clsOf_eq hpw ha
  have hccl : ∀ s h, h.get 0 = some (x, false) → ClEq Try.prog (.func (.func 16) [] []) [.agg [hv], .int .i64 (s : Nat)] h (.int .i64 (clsOf (allS rs 0) s)) h := fun s h hh => class_cl hx s hh
  generalize hq0 : newL (h7 x hv tk) (allS rs 0).length (nints ((allS rs 0).map fun a => a.1)) 3 = hq at *
  generalize hsv : slV (h7 x hv tk).next (allS rs 0).length = sv at *
  have hsv : sv = slV 3 (allS rs 0).length := hsv.symm
  have k0 : hq.get 0 = some (x, false) := by
    rw [← hq0]; unfold newL
    split
    · exact g0
    · rw [H.get_new]; exact g0
  have k1 : hq.get 1 = some (.cells [hv] 24, true) := by
    have : (h7 x hv tk).get 1 = some (.cells [hv] 24, true) := by kernel_rfl
    rw [← hq0]; unfold newL
    split
    · exact this
    · rw [H.get_new]; exact this
  have k2 : hq.get 2 = some (.cells (tkL tk) 25, true) := by
    have : (h7 x hv tk).get 2 = some (.cells (tkL tk) 25, true) := by kernel_rfl
    rw [← hq0]; unfold newL
    split
    · exact this
    · rw [H.get_new]; exact this
  have k3 : 0 < (allS rs 0).length → hq.get 3 = some (.cells (nints ((allS rs 0).map fun a => a.1)) 3, true) := fun hp => by
    rw [← hq0, newL_pos hp, H.get_new]; exact if_pos rfl
  have kd : ∀ i y, hq.get i = some y → i < hq.next := by
    have d0 : ∀ i y, (h7 x hv tk).get i = some y → i < (h7 x hv tk).next := dom_new (dom_new dom_boxH)
    rw [← hq0]; unfold newL
    split
    · exact d0
    · exact dom_new d0
  clear hq0
  refine Sp.of_ev tab_ok Try.func7 (c := bodyC Try.prog 7) (by kernel_rfl) (Nat.le_of_ble_eq_true rfl) ?_
  show Ev Try.prog none 50 (bodyC Try.prog 7) (BodyQ tab [.tmp 8, .tmp 9] _) _ _
  refine Ev.of_flat l7_eq ?_
  generalize hS : allS rs 0 = S at *
  have q2 : builtinI tab .len [27] [sv] hq = some (.int .i64 (S.length : Nat), hq) := by rw [hsv]; exact len_slV t27d _ _ _
  refine EvS.px tab_ok mixed (FrIs.start 50 _) (by simp) (pre7 x hv sv tk c n [] 0 S.length 0 0 0 0 hq (boxH []) (boxH []) .nilslice) ⟨q1, q2, trivial⟩ fun fr g hf => ?_
  refine EvS.loop (fun t fr h => ∃ i, i ≤ S.length ∧ t = S.length - i ∧ h = hq ∧ ∃ g, FrIs 50 fr (ov [2, 3, 4, 5, 10, 15, 16, 17] (lv7 c n ((S.take i).filter fun a => decide (a.2 = c ∧ tk a.1 = false)).length sv S.length i) g) []) S.length
    ⟨0, by omega, by omega, rfl, g, hf⟩ ?_
  rintro t fr h ⟨i, hi, rfl, rfl, g, hf⟩
  by_cases hlt : i < S.length
  · obtain ⟨a, ha⟩ : ∃ a, S[i]? = some a := ⟨S[i], by simp [hlt]⟩
    have haS := List.mem_of_getElem? ha
    have ha64 := (hrange a haS).2
    have htake : S.take (i + 1) = S.take i ++ [a] := by rw [List.take_add_one, ha]; rfl
    have hcnt : ((S.take (i + 1)).filter fun a => decide (a.2 = c ∧ tk a.1 = false)).length = ((S.take i).filter fun a => decide (a.2 = c ∧ tk a.1 = false)).length + (if a.2 = c ∧ tk a.1 = false then 1 else 0) := by
      rw [htake, List.filter_append, List.length_append]
      by_cases hs : a.2 = c ∧ tk a.1 = false
      · simp [hs]
      · simp [hs]
    have e1 : ∀ tb, tk a.1 = tb → AllP (o7 sv tk (S.map fun a => a.1) a.1 S.length i h tb) := fun tb htb => ⟨by rw [decide_eq_true (by omega)], by rw [hsv, slV_pos (by omega), ix_sl t27d t3s hlt]; simp, k3 (by omega), by
        show (nints (S.map fun a => a.1))[i]? = _
        simp [nints, ha], by rw [ix_arr t25d t4s (by omega)]; simp, k2, by
        show (tkL tk)[a.1]? = _
        rw [tkL_get (by omega), htb], trivial⟩
    have e2 : ∀ eq, decide (a.2 = c) = eq → AllP (o7b hv c a.1 a.2 h eq) := fun eq heq => ⟨k1, rfl, by
        have := hccl a.1 h k0
        rw [hcls a haS] at this
        exact this, by rw [← heq]; rfl, trivial⟩
    have e3 : AllP (o7i i) := ⟨w_i (by omega), trivial⟩
    have hcl : ((S.take i).filter fun a => decide (a.2 = c ∧ tk a.1 = false)).length ≤ S.length := by
      refine Nat.le_trans (List.length_filter_le _ _) ?_
      rw [List.length_take]; omega
    generalize ((S.take i).filter fun a => decide (a.2 = c ∧ tk a.1 = false)).length = cnt at *
    cases htk : tk a.1 with
    | true =>
      refine Ev.px tab_ok mixed hf (r7_tk hv sv tk c n (S.map fun a => a.1) a.1 S.length i cnt 0 0 h (boxH []) (boxH []) .nilslice g) (AllP.mk_append (e1 true htk) e3) fun fr2 g2 hf2 => ?_
      exact ⟨_, by omega, i + 1, by omega, rfl, rfl, g2, by rw [hcnt]; simpa [htk] using hf2⟩
    | false =>
      by_cases hc : a.2 = c
      · refine Ev.px tab_ok mixed hf (r7_yes hv sv tk c n (S.map fun a => a.1) a.1 S.length i cnt 0 a.2 h (boxH []) (boxH []) .nilslice g) (AllP.mk_append (AllP.mk_append (AllP.mk_append (e1 false htk) (e2 true (by simp [hc]))) ⟨w_i (by omega), trivial⟩) e3) fun fr2 g2 hf2 => ?_
        exact ⟨_, by omega, i + 1, by omega, rfl, rfl, g2, by rw [hcnt]; simpa [htk, hc] using hf2⟩
      · refine Ev.px tab_ok mixed hf (r7_no hv sv tk c n (S.map fun a => a.1) a.1 S.length i cnt 0 a.2 h (boxH []) (boxH []) .nilslice g) (AllP.mk_append (AllP.mk_append (e1 false htk) (e2 false (by simp [hc]))) e3) fun fr2 g2 hf2 => ?_
        exact ⟨_, by omega, i + 1, by omega, rfl, rfl, g2, by rw [hcnt]; simpa [htk, hc] using hf2⟩
  obtain rfl : i = S.length := by omega
  rw [List.take_length, ← hfree] at hf
  have hf64 := free_le h8 c tk
  refine Ev.px tab_ok mixed hf (r7_end hv sv tk c n [] 0 S.length S.length (free rs c tk).length 0 0 h (boxH []) (boxH []) .nilslice g) ⟨by rw [decide_eq_false (by omega)], trivial⟩ fun fr2 g2 hf2 => ?_
  refine RoundEnds.out ?_
  have done0 : ∀ (fr3 : Fr), ¬ (1 ≤ n ∧ n ≤ (free rs c tk).length) → fr3.marks = [] → fr3.tm.tmp 8 = .nilslice → fr3.tm.tmp 9 = .bool false →
      BodyQ tab [.tmp 8, .tmp 9] (fun v' h' => ∃ s, v' = .tup [slV s (chooseP rs c tk n).length, .bool (okP rs c tk n)] ∧ ((chooseP rs c tk n).length = 0 ∨ (h'.get s = some (.cells (nints (chooseP rs c tk n)) 3, true) ∧ [x].length ≤ s)) ∧ ∀ i y, (boxH [x]).get i = some y → h'.get i = some y) .ret fr3 h := by
    intro fr3 hno hm e8 e9
    refine ⟨.inr rfl, h, [.nilslice, .bool false], by rw [hm]; rfl, by simp only [resI, e8, e9, Option.map_some], 0, ?_, .inl ?_, keep0 k0⟩
    · unfold chooseP okP
      rw [if_neg hno, decide_eq_false hno]
      rfl
    · unfold chooseP
      rw [if_neg hno]; rfl
  by_cases hn1 : n < 1
  · refine EvS.pxEnd tab_ok mixed hf2 (List.cons_ne_nil _ _) (post7_lt hv sv tk c n [] 0 0 0 (free rs c tk).length 0 0 h (boxH []) (boxH []) .nilslice g2) ⟨by rw [decide_eq_true hn1], trivial⟩ fun fr3 g3 hf3 => ?_
    exact done0 fr3 (by omega) hf3.1 (hf3.2 8 (by decide)) (hf3.2 9 (by decide))
  by_cases hn2 : n > (free rs c tk).length
  · refine EvS.pxEnd tab_ok mixed hf2 (List.cons_ne_nil _ _) (post7_gt hv sv tk c n [] 0 0 0 (free rs c tk).length 0 0 h (boxH []) (boxH []) .nilslice g2) ⟨by rw [decide_eq_false hn1], by rw [decide_eq_true hn2], trivial⟩ fun fr3 g3 hf3 => ?_
    exact done0 fr3 (by omega) hf3.1 (hf3.2 8 (by decide)) (hf3.2 9 (by decide))
  obtain ⟨m, rfl⟩ : ∃ m : Nat, n = m := ⟨n.toNat, by omega⟩
  have hm1 : 1 ≤ m := by omega
  have hm2 : m ≤ (free rs c tk).length := by omega
  have q3 := search_cl hx c hm1 hm2 k0
  rw [newL_pos hm1, slV_pos hm1] at q3
  have hsl3 := (search_ok rs c m m tk (Nat.le_refl _) hm2).1
  have hP : chooseP rs c tk (m : Int) = sortN (searchP rs c m tk m) := by
    unfold chooseP
    rw [if_pos ⟨by omega, by omega⟩, Int.toNat_natCast]
  have hO : okP rs c tk (m : Int) = true := by unfold okP; rw [decide_eq_true (by omega)]
  generalize searchP rs c m tk m = l at *
  have gn : (h.new (.cells (nints l) 3)).get h.next = some (.cells (nints l) 3, true) := by rw [H.get_new, if_pos rfl]
  have q4 := sort_cl gn (by omega)
  rw [hsl3] at q4
  refine EvS.pxEnd tab_ok mixed hf2 (List.cons_ne_nil _ _) (post7_go hv sv tk c m [] 0 0 0 (free rs c tk).length 0 0 h _ _ _ g2) ⟨by rw [decide_eq_false hn1], by rw [decide_eq_false hn2], k1, rfl, k2, tk_ld tk, q3, q4, trivial⟩ fun fr3 g3 hf3 => ?_
  have hn0 := kd _ _ k0
  refine ⟨.inr rfl, _, [.slice h.next 0 m (.soft 0), .bool true], by rw [hf3.1]; rfl, ?_, h.next, ?_, .inr ⟨?_, hn0⟩, keep0 ?_⟩
  · have e8 : fr3.tm.tmp 8 = .slice h.next 0 m (.soft 0) := hf3.2 8 (by decide)
    have e9 : fr3.tm.tmp 9 = .bool true := hf3.2 9 (by decide)
    simp only [resI, e8, e9, Option.map_some]
  · rw [hP, hO, sortN_length, hsl3, slV_pos hm1]
    rfl
  · rw [H.get_put, if_pos rfl, hP]
  · rw [H.get_put, if_neg (by omega), H.get_new, if_neg (by omega)]; exact k0

theorem choose_cl {x : Bx} {off nn : Nat} {cp : Cap} {rs : List (Int × Int)} (hx : HallX x off nn cp rs) (c n : Int) (tk : Nat → Bool) {h : H} {b : Nat} {wr : Bool} (hb : h.get b = some (x, wr)) :
    ClEq Try.prog (.func (.func 7) [] []) [.agg [.slice b off nn cp], .agg (tkL tk), .int .i64 c, .int .i64 n] h (.tup [slV h.next (chooseP rs c tk n).length, .bool (okP rs c tk n)]) (newL h (chooseP rs c tk n).length (nints (chooseP rs c tk n)) 3) := by
  refine Cl.of_sp (first := []) (cap := []) enters7 ?_
  have hul : underLB 1 (tkL tk) = true := by
    unfold tkL
    generalize List.range 64 = l
    induction l with
    | nil => rfl
    | cons a l ih => simp only [List.map_cons, underLB, IV.underB, Bool.true_and, ih]
  have hrn : ∀ f, renL f (tkL tk) = tkL tk := fun f => by
    unfold tkL
    generalize List.range 64 = l
    induction l with
    | nil => rfl
    | cons a l ih => simp only [List.map_cons, renL, IV.ren, ih]
  have := Sp.listB (bs := [x]) (by simp [hx.fl]) (by simp [underLB, IV.underB, hul]) (nints_flat _) (choose_sp hx c n tk) (H0 := h) (fun _ => b) (fun i o ho => by
    cases i with
    | zero => simp at ho; subst ho; exact ⟨wr, hb⟩
    | succ i => simp at ho) (fun i j hi hj _ => by simp at hi hj; omega)
  simp only [renL, IV.ren, hrn] at this
  exact this
end Go.Proofs.Ytjhgomacanffkaa
