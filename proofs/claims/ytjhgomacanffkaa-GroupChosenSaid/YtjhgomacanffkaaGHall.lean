/- hall.Class and hall.Runs as contracts. -/
import Derived.Test.YtjhgomacanffkaaGSeats
namespace Go.Proofs.Ytjhgomacanffkaa
open Go Sx Go.RowKit

noncomputable def l16 : List Code := flat (bodyC Try.prog 16)
noncomputable def as16 : Code := rangeA l16 2
noncomputable def bd16 : Code := rangeB l16 2
theorem l16_eq : flat (bodyC Try.prog 16) = l16.take 2 ++ (.block 0 (.rangeFunc (.tmp 8) #[9, 10] as16 bd16) :: l16.drop 3) := by kernel_rfl

def fv16 : IV := .func (.func 35) [] [.ptr 4 0]
def F16 (g : Nat → IV) : Nat → IV := ov [3, 4, 8] [.ptr 2 0, .ptr 3 0, fv16] g
noncomputable def rec16 (st : LoopState) (pd : Option Code) (g : Nat → IV) : Bx := .loop st pd 15 (canon 15 (F16 g) []).tm [9, 10] as16 bd16 5
def h16 (x : Bx) (hv : IV) (seat : Int) : H := ((((boxH [x]).new (.cells [hv] 24)).new (.cells [.int .i64 seat] 3)).new (.cells [.int .i64 0] 3)).new (.cells [hv] 24)
noncomputable def k16 (x : Bx) (hv : IV) (seat : Int) (g : Nat → IV) : H := ((h16 x hv seat).new (.defs false)).new (rec16 .ready none g)

theorem pre16 (x : Bx) (hv : IV) (seat : Int) : psR Try.prog tab (fun _ _ => none) 50 16 none 15 (l16.take 2) (canon 15 (fun j => [IV.agg [hv], .int .i64 seat].getD j undefI) []) (boxH [x]) [3, 4, 8] =
  some (.normal, [.ptr 2 0, .ptr 3 0, fv16], h16 x hv seat, [], []) := by kernel_rfl
theorem fv16_ev (g : Nat → IV) : evo (canon 15 (F16 g) []).tm (.tmp 8) = some fv16 := by kernel_rfl
theorem enters16 : Go.Proofs.Enters Try.prog 16 := Go.Proofs.enters_of Try.func16 (by kernel_rfl) rfl
theorem as16_run (h : H) (g : Nat → IV) (s k : Int) : pxR Try.prog tab (fun _ _ => none) 50 16 (some 6) 15 as16 (canon 15 (ov [9, 10] [.int .i64 s, .int .i64 k] (F16 g)) []) h [3, 4, 5, 6] =
  some (.normal, [.ptr 2 0, .ptr 3 0, .int .i64 s, .int .i64 k], h, [], []) := by kernel_rfl
def oc16 (seat k : Int) (hit : Bool) : Nat → Nat → Option It := fun f t => match f, t with
  | 16, 12 => some (.l (.int .i64 seat) (.cells [.int .i64 seat] 3, true))
  | 16, 13 => some (.w (.bool hit))
  | 16, 1004 => some (.t [.int .i64 0] 3 [.int .i64 k])
  | _, _ => none
theorem bd16_no (h : H) (g : Nat → IV) (s k seat : Int) : pxR Try.prog tab (oc16 seat k false) 50 16 (some 6) 15 bd16 (canon 15 (ov [3, 4, 5, 6] [.ptr 2 0, .ptr 3 0, .int .i64 s, .int .i64 k] g) []) h [] =
  some (.normal, [], h, [], [h.get 2 = some (.cells [.int .i64 seat] 3, true), ldX (.cells [.int .i64 seat] 3, true) false 1 0 = some (.int .i64 seat), IV.bool (s == seat) = .bool false]) := by kernel_rfl
theorem bd16_hit (h : H) (g : Nat → IV) (s k seat : Int) : pxR Try.prog tab (oc16 seat k true) 50 16 (some 6) 15 bd16 (canon 15 (ov [3, 4, 5, 6] [.ptr 2 0, .ptr 3 0, .int .i64 s, .int .i64 k] g) []) h [] =
  some (.ret, [], h.put 3 (.cells [.int .i64 k] 3), [], [h.get 2 = some (.cells [.int .i64 seat] 3, true), ldX (.cells [.int .i64 seat] 3, true) false 1 0 = some (.int .i64 seat), IV.bool (s == seat) = .bool true,
    h.get 3 = some (.cells [.int .i64 0] 3, true), stC 1 [.int .i64 0] 0 (.int .i64 k) = some [.int .i64 k]]) := by kernel_rfl
theorem post16 (h : H) (g : Nat → IV) (seat : Int) : psR Try.prog tab (oc16 seat (-1) true) 50 16 none 15 (l16.drop 3) (canon 15 (F16 g) [5]) h [4] =
  some (.ret, [.ptr 3 0], h.put 3 (.cells [.int .i64 (-1)] 3), [5], [h.get 3 = some (.cells [.int .i64 0] 3, true), stC 1 [.int .i64 0] 0 (.int .i64 (-1)) = some [.int .i64 (-1)]]) := by kernel_rfl

def clsOf (S : List (Nat × Int)) (seat : Nat) : Int := match S.find? fun a => a.1 == seat with
  | some a => a.2
  | none => -1

structure J16 (x : Bx) (hv : IV) (seat : Nat) (g : Nat → IV) (d : List (Nat × Int)) (own : List Nat) (h : H) : Prop where
  own : own = [3, 6]
  none : ∀ a ∈ d, a.1 ≠ seat
  dom : ∀ i y, h.get i = some y → i < h.next
  g0 : h.get 0 = some (x, false)
  g2 : h.get 2 = some (.cells [.int .i64 (seat : Nat)] 3, true)
  g3 : h.get 3 = some (.cells [.int .i64 0] 3, true)
  g4 : h.get 4 = some (.cells [hv] 24, true)
  g5 : h.get 5 = some (.defs false, true)
  g6 : h.get 6 = some (rec16 .ready Option.none g, true)

structure R16 (x : Bx) (g : Nat → IV) (k : Int) (h : H) : Prop where
  g0 : h.get 0 = some (x, false)
  g3 : h.get 3 = some (.cells [.int .i64 k] 3, true)
  g5 : h.get 5 = some (.defs false, true)
  g6 : h.get 6 = some (rec16 .done (some .ret) g, true)

theorem con16 (x : Bx) (hv : IV) (seat : Nat) (g : Nat → IV) : Con (k16 x hv seat g) 4 0 hv true (x, false) (J16 x hv seat g) := by
  refine ⟨?_, ?_, ?_, ?_, ?_⟩
  · rintro d own h j
    have := j.dom _ _ j.g6
    rw [j.own]
    refine ⟨?_, by simp, by simp⟩
    intro i hi
    simp only [List.mem_cons, List.not_mem_nil, or_false] at hi
    omega
  · rintro d own h j; exact j.g4
  · rintro d own h j; exact j.g0
  · rintro d own h j; exact j.dom
  · rintro d own h h' j hg hd
    exact ⟨j.own, j.none, hd, hg.2 _ _ j.g0, hg.2 _ _ j.g2, hg.2 _ _ j.g3, hg.2 _ _ j.g4, hg.2 _ _ j.g5, hg.2 _ _ j.g6⟩

theorem cons16 (x : Bx) (hv : IV) (seat : Nat) (g : Nat → IV) {S d t : List (Nat × Int)} {own : List Nat} {h : H} (a : Nat × Int) (hS : d ++ a :: t = S) (j : J16 x hv seat g d own h) :
    ∃ v h', ClEq Try.prog (.func (.yield 6) [] []) [.int .i64 (a.1 : Nat), .int .i64 a.2] h (.bool v) h' ∧
      ((v = true ∧ ∃ own', J16 x hv seat g (d ++ [a]) own' h' ∧ Kept own own' h h') ∨ (v = false ∧ R16 x g (clsOf S seat) h' ∧ (S.find? fun a => a.1 == seat) ≠ none)) := by
  have h6 := j.dom _ _ j.g6
  let hb := h.put 6 (rec16 .busy none g)
  have b2 : hb.get 2 = some (.cells [.int .i64 (seat : Nat)] 3, true) := by show (h.put 6 _).get 2 = _; rw [H.get_put, if_neg (by decide)]; exact j.g2
  have b3 : hb.get 3 = some (.cells [.int .i64 0] 3, true) := by show (h.put 6 _).get 3 = _; rw [H.get_put, if_neg (by decide)]; exact j.g3
  have b6 : hb.get 6 = some (rec16 .busy none g, true) := by show (h.put 6 _).get 6 = _; rw [H.get_put, if_pos rfl]
  by_cases hit : a.1 = seat
  · refine ⟨false, (hb.put 3 (.cells [.int .i64 a.2] 3)).put 6 (rec16 .done (some .ret) g), ?_, .inr ⟨rfl, ?_, ?_⟩⟩
    · refine Cl.yield j.g6 rfl (by decide) ?_
      refine Ev.px tab_ok mixed (vF_is [9, 10] _ _ rfl (fun k hk => by rw [canon_tmp, if_pos hk]) (by decide)) (as16_run h g _ _) trivial fun fr1 g1 hf1 => ⟨rfl, _, _, _, _, _, _, _, j.g6, ?_⟩
      refine Ev.px tab_ok mixed hf1 (bd16_hit hb g1 _ _ (seat : Nat)) ⟨b2, rfl, by rw [hit]; simp, b3, rfl, trivial⟩ fun fr2 g2 hf2 => ?_
      exact ⟨_, _, _, _, _, _, _, _, by rw [H.get_put, if_neg (by decide)]; exact b6, rfl, rfl⟩
    · have hfind : S.find? (fun a => a.1 == seat) = some a := by
        rw [← hS, List.find?_append, List.find?_eq_none.2 (fun b hb => by simpa using j.none b hb)]
        simp [hit]
      have hcls : clsOf S seat = a.2 := by unfold clsOf; rw [hfind]
      rw [hcls]
      refine ⟨?_, ?_, ?_, ?_⟩
      · rw [H.get_put, if_neg (by decide), H.get_put, if_neg (by decide)]; show (h.put 6 _).get 0 = _; rw [H.get_put, if_neg (by decide)]; exact j.g0
      · rw [H.get_put, if_neg (by decide), H.get_put, if_pos rfl]
      · rw [H.get_put, if_neg (by decide), H.get_put, if_neg (by decide)]; show (h.put 6 _).get 5 = _; rw [H.get_put, if_neg (by decide)]; exact j.g5
      · rw [H.get_put, if_pos rfl]
    · rw [← hS]
      simp [List.find?_append, hit]
  · refine ⟨true, hb.put 6 (rec16 .ready none g), ?_, .inl ⟨rfl, [3, 6], ⟨rfl, ?_, ?_, ?_, ?_, ?_, ?_, ?_, ?_⟩, ?_, ?_⟩⟩
    · refine Cl.yield j.g6 rfl (by decide) ?_
      refine Ev.px tab_ok mixed (vF_is [9, 10] _ _ rfl (fun k hk => by rw [canon_tmp, if_pos hk]) (by decide)) (as16_run h g _ _) trivial fun fr1 g1 hf1 => ⟨rfl, _, _, _, _, _, _, _, j.g6, ?_⟩
      have hne : (((a.1 : Nat) : Int) == (seat : Nat)) = false := by simp; omega
      refine Ev.px tab_ok mixed hf1 (bd16_no hb g1 _ _ (seat : Nat)) ⟨b2, rfl, by rw [hne], trivial⟩ fun fr2 g2 hf2 => ?_
      exact ⟨_, _, _, _, _, _, _, _, b6, rfl, rfl⟩
    · intro b hb
      rcases List.mem_append.1 hb with hb | hb
      · exact j.none b hb
      · simp at hb; subst hb; exact hit
    · exact dom_put b6 (dom_put j.g6 j.dom)
    · rw [H.get_put, if_neg (by decide)]; show (h.put 6 _).get 0 = _; rw [H.get_put, if_neg (by decide)]; exact j.g0
    · rw [H.get_put, if_neg (by decide)]; exact b2
    · rw [H.get_put, if_neg (by decide)]; exact b3
    · rw [H.get_put, if_neg (by decide)]; show (h.put 6 _).get 4 = _; rw [H.get_put, if_neg (by decide)]; exact j.g4
    · rw [H.get_put, if_neg (by decide)]; show (h.put 6 _).get 5 = _; rw [H.get_put, if_neg (by decide)]; exact j.g5
    · rw [H.get_put, if_pos rfl]
    · exact Nat.le_refl _
    · intro i y hi hm
      rw [j.own] at hm
      refine ⟨?_, hm⟩
      simp only [List.mem_cons, List.not_mem_nil, or_false, not_or] at hm
      rw [H.get_put, if_neg (by omega)]
      show (h.put 6 _).get i = _
      rw [H.get_put, if_neg (by omega)]
      exact hi

theorem class_sp {x : Bx} {off n : Nat} {c : Cap} {rs : List (Int × Int)} (hx : HallX x off n c rs) (seat : Nat) :
    SpEq Try.prog 16 [.agg [.slice 0 off n c], .int .i64 (seat : Nat)] (boxH [x]) (.int .i64 (clsOf (allS rs 0) seat)) (boxH [x]) := by
  obtain ⟨c', hcut⟩ := hx.cut
  refine Sp.forget rfl ?_
  refine Sp.of_ev tab_ok Try.func16 (c := bodyC Try.prog 16) (by kernel_rfl) (Nat.le_of_ble_eq_true rfl) ?_
  show Ev Try.prog none 15 (bodyC Try.prog 16) (BodyQ tab [.cell 4 3] _) _ _
  refine Ev.of_flat l16_eq ?_
  refine EvS.px tab_ok mixed (FrIs.start 15 _) (by simp) (pre16 x (.slice 0 off n c) seat) trivial fun fr g hf => ?_
  refine Ev.block (Ev.canon hf ?_)
  refine Ev.rangeFunc_none (fv16_ev g) rfl enters35 ?_
  refine Cl.of_sp enters35 ?_
  have hd0 : ∀ i y, (k16 x (.slice 0 off n c) seat g).get i = some y → i < (k16 x (.slice 0 off n c) seat g).next := dom_new (dom_new (dom_new (dom_new (dom_new (dom_new dom_boxH)))))
  have j0 : J16 x (.slice 0 off n c) seat g [] [3, 6] (k16 x (.slice 0 off n c) seat g) := ⟨rfl, by simp, hd0, by kernel_rfl, by kernel_rfl, by kernel_rfl, by kernel_rfl, by kernel_rfl, by kernel_rfl⟩
  have h1 : (tab.get 3).map (fun y => (y.size, aggD y.d)) = some (1, false) := by kernel_rfl
  have fin : ∀ (h3 : H) (fr2 : Fr) (k : Int) (o : Out), o = .normal ∨ o = .ret → fr2.marks = [5] → fr2.tm.tmp 4 = .ptr 3 0 → h3.get 0 = some (x, false) → h3.get 3 = some (.cells [.int .i64 k] 3, true) → h3.get 5 = some (.defs false, true) →
      BodyQ tab [.cell 4 3] (fun v' h' => v' = .int .i64 k ∧ ∀ i y, (boxH [x]).get i = some y → h'.get i = some y) o fr2 h3 := by
    intro h3 fr2 k o ho hms e4 g0 g3 g5
    refine ⟨ho, h3.kill 5, [.int .i64 k], ?_, ?_, rfl, ?_⟩
    · rw [hms]
      simp only [takeMarks, g5]
    · have e3 : (h3.kill 5).get 3 = some (.cells [.int .i64 k] 3, true) := by rw [H.get_kill, if_neg (by decide)]; exact g3
      simp only [resI, e4]
      cases ht : tab.get 3 with
      | none => rw [ht] at h1; cases h1
      | some ty =>
        rw [ht] at h1
        simp only [Option.map_some, Option.some.injEq, Prod.mk.injEq] at h1
        simp only [h1.1, h1.2, loadI, e3]
        rfl
    · intro i y hi
      rw [boxH_get] at hi
      have hi0 : i = 0 := by
        cases i with
        | zero => rfl
        | succ i => simp at hi
      subst hi0
      rw [H.get_kill, if_neg (by decide), g0]
      simpa using hi
  refine Sp.mono (sp35 (h0 := k16 x (.slice 0 off n c) seat g) (J16 x (.slice 0 off n c) seat g) (fun h => R16 x g (clsOf (allS rs 0) seat) h) (con16 x (.slice 0 off n c) seat g) (hx.rows false) hx.len hx.m (fun h hh => hcut 0 h false hh) ?_ j0) ?_
  · intro d s t own h hd hj
    obtain ⟨v, h', h1, h2⟩ := cons16 x _ seat g s hd hj
    refine ⟨v, h', h1, h2.imp id fun ⟨a, b, _⟩ => ⟨a, b⟩⟩
  rintro v h3 ⟨rfl, hh⟩
  have km : FrIs 15 ⟨(canon 15 (F16 g) []).tm, [5]⟩ (F16 g) [5] := ⟨rfl, fun j hj => by rw [canon_tmp, if_pos hj]⟩
  rcases hh with ⟨own, j⟩ | r
  · refine ⟨_, _, _, _, _, _, _, _, j.g6, by simp, ?_⟩
    have k3 : (h3.kill 6).get 3 = some (.cells [.int .i64 0] 3, true) := by rw [H.get_kill, if_neg (by decide)]; exact j.g3
    have hcls : clsOf (allS rs 0) seat = -1 := by
      unfold clsOf
      rw [List.find?_eq_none.2 (fun b hb => by simpa using j.none b hb)]
    rw [hcls]
    refine EvS.pxEnd (F := F16 g) (ms := [5]) tab_ok mixed km (List.cons_ne_nil _ _) (post16 (h3.kill 6) g seat) ⟨k3, rfl, trivial⟩ fun fr2 g2 hf2 => ?_
    refine fin _ fr2 (-1) _ (.inr rfl) hf2.1 (hf2.2 4 (by decide)) ?_ ?_ ?_
    · rw [H.get_put, if_neg (by decide), H.get_kill, if_neg (by decide)]; exact j.g0
    · rw [H.get_put, if_pos rfl]
    · rw [H.get_put, if_neg (by decide), H.get_kill, if_neg (by decide)]; exact j.g5
  · refine ⟨_, _, _, _, _, _, _, _, r.g6, by simp, ?_⟩
    refine Ev.ret ?_
    refine fin _ _ _ _ (.inr rfl) rfl (km.2 4 (by decide)) ?_ ?_ ?_
    · have k : (h3.kill 6).get 0 = some (x, false) := by rw [H.get_kill, if_neg (by decide)]; exact r.g0
      exact k
    · have k : (h3.kill 6).get 3 = some (.cells [.int .i64 (clsOf (allS rs 0) seat)] 3, true) := by rw [H.get_kill, if_neg (by decide)]; exact r.g3
      exact k
    · have k : (h3.kill 6).get 5 = some (.defs false, true) := by rw [H.get_kill, if_neg (by decide)]; exact r.g5
      exact k

theorem class_cl {x : Bx} {off n : Nat} {c : Cap} {rs : List (Int × Int)} (hx : HallX x off n c rs) (seat : Nat) {h : H} {b : Nat} {wr : Bool} (hb : h.get b = some (x, wr)) :
    ClEq Try.prog (.func (.func 16) [] []) [.agg [.slice b off n c], .int .i64 (seat : Nat)] h (.int .i64 (clsOf (allS rs 0) seat)) h := by
  refine Cl.of_sp (first := []) (cap := []) enters16 ?_
  have := Sp.bigF (bs := [x]) (by simp [hx.fl]) (by simp [underLB, IV.underB]) rfl (class_sp hx seat) (H0 := h) (fun _ => b) (fun i o ho => by
    cases i with
    | zero => simp at ho; subst ho; exact ⟨wr, hb⟩
    | succ i => simp at ho) (fun i j hi hj _ => by simp at hi hj; omega)
  exact this
end Go.Proofs.Ytjhgomacanffkaa
namespace Go.Proofs.Ytjhgomacanffkaa
open Go Sx Go.RowKit

noncomputable def l23 : List Code := flat (bodyC Try.prog 23)
noncomputable def as23 : Code := rangeA l23 3
noncomputable def bd23 : Code := rangeB l23 3
theorem l23_eq : flat (bodyC Try.prog 23) = l23.take 3 ++ (.block 0 (.rangeFunc (.tmp 11) #[12, 13] as23 bd23) :: l23.drop 4) := by kernel_rfl

def tkL (tk : Nat → Bool) : List IV := (List.range 64).map fun j => .bool (tk j)
def fv23 : IV := .func (.func 35) [] [.ptr 6 0]
def L23 : List IV := [.ptr 2 0, .ptr 3 0, .ptr 4 0, .ptr 5 0]
def F23 (g : Nat → IV) : Nat → IV := ov [4, 5, 6, 7, 11] (L23 ++ [fv23]) g
noncomputable def rec23 (st : LoopState) (g : Nat → IV) : Bx := .loop st none 53 (canon 53 (F23 g) []).tm [12, 13] as23 bd23 7
def h23 (x : Bx) (hv : IV) (c : Int) (tk : Nat → Bool) : H := ((((((boxH [x]).new (.cells [hv] 24)).new (.cells [.int .i64 c] 3)).new (.cells (tkL tk) 25)).new (.cells [.nilslice] 53)).new (.cells [.int .i64 (-1)] 3)).new (.cells [hv] 24)
noncomputable def k23 (x : Bx) (hv : IV) (c : Int) (tk : Nat → Bool) (g : Nat → IV) : H := ((h23 x hv c tk).new (.defs false)).new (rec23 .ready g)

theorem pre23 (x : Bx) (hv : IV) (c : Int) (tk : Nat → Bool) : psR Try.prog tab (fun _ _ => none) 50 23 none 53 (l23.take 3) (canon 53 (fun j => [IV.agg [hv], .int .i64 c, .agg (tkL tk)].getD j undefI) []) (boxH [x]) [4, 5, 6, 7, 11] =
  some (.normal, L23 ++ [fv23], h23 x hv c tk, [], []) := by kernel_rfl
theorem fv23_ev (g : Nat → IV) : evo (canon 53 (F23 g) []).tm (.tmp 11) = some fv23 := by kernel_rfl
theorem enters23 : Go.Proofs.Enters Try.prog 23 := Go.Proofs.enters_of Try.func23 (by kernel_rfl) rfl
theorem as23_run (h : H) (g : Nat → IV) (s k : Int) : pxR Try.prog tab (fun _ _ => none) 50 23 (some 8) 53 as23 (canon 53 (ov [12, 13] [.int .i64 s, .int .i64 k] (F23 g)) []) h [4, 5, 6, 7, 8, 9] =
  some (.normal, L23 ++ [.int .i64 s, .int .i64 k], h, [], []) := by kernel_rfl

def oc23 (c last s n rm : Int) (tk : Nat → Bool) (sn k : Nat) (cs cs' : List IV) (p : Nat) (lv v : IV) (h h2 : H) (ne tb pos nx gt : Bool) : Nat → Nat → Option It := fun f t => match f, t with
  | 23, 15 => some (.l (.int .i64 c) (.cells [.int .i64 c] 3, true))
  | 23, 16 => some (.w (.bool ne))
  | 23, 19 => some (.o (.ptr 3 sn))
  | 23, 20 => some (.l (.bool tb) (.cells (tkL tk) 25, true))
  | 23, 22 => some (.l lv (.cells [lv] 53, true))
  | 23, 23 => some (.g (.int .i64 n) h)
  | 23, 24 => some (.w (.bool pos))
  | 23, 27 => some (.l (.int .i64 last) (.cells [.int .i64 last] 3, true))
  | 23, 28 => some (.w (.int .i64 (last + 1)))
  | 23, 29 => some (.w (.bool nx))
  | 23, 33 => some (.w (.int .i64 rm))
  | 23, 34 => some (.w (.bool gt))
  | 23, 36 => some (.l lv (.cells [lv] 53, true))
  | 23, 37 => some (.l lv (.cells [lv] 53, true))
  | 23, 38 => some (.g (.int .i64 n) h)
  | 23, 39 => some (.w (.int .i64 (n - 1)))
  | 23, 40 => some (.o (.ptr p (2 * (n - 1).toNat)))
  | 23, 41 => some (.o (.ptr p (2 * (n - 1).toNat + 1)))
  | 23, 42 => some (.l (.int .i64 k) (.cells cs 26, true))
  | 23, 43 => some (.w (.int .i64 ((k + 1 : Nat) : Int)))
  | 23, 44 => some (.o (.ptr p (2 * (n - 1).toNat)))
  | 23, 45 => some (.o (.ptr p (2 * (n - 1).toNat + 1)))
  | 23, 1045 => some (.t cs 26 cs')
  | 23, 46 => some (.l lv (.cells [lv] 53, true))
  | 23, 50 => some (.g v h2)
  | 23, 1006 => some (.t [lv] 53 [v])
  | 23, 1007 => some (.t [.int .i64 last] 3 [.int .i64 s])
  | 23, 52 => some (.l v (.cells [v] 53, true))
  | _, _ => none

section
variable (h h2 : H) (g : Nat → IV) (c last s kc n rm : Int) (tk : Nat → Bool) (sn k : Nat) (cs cs' : List IV) (p : Nat) (lv v : IV)
def lv23 (s kc : Int) : List IV := L23 ++ [.int .i64 s, .int .i64 kc]
theorem bd23_ne : pxR Try.prog tab (oc23 c last s n rm tk sn k cs cs' p lv v h h2 true false false false false) 50 23 (some 8) 53 bd23 (canon 53 (ov [4, 5, 6, 7, 8, 9] (lv23 s kc) g) []) h [] =
  some (.normal, [], h, [], [h.get 2 = some (.cells [.int .i64 c] 3, true), ldX (.cells [.int .i64 c] 3, true) false 1 0 = some (.int .i64 c), IV.bool (kc != c) = .bool true]) := by kernel_rfl
def o23a (tb : Bool) : List Prop := [h.get 2 = some (.cells [.int .i64 c] 3, true), ldX (.cells [.int .i64 c] 3, true) false 1 0 = some (.int .i64 c), IV.bool (kc != c) = .bool false,
    indexAddrI tab 25 (.ptr 3 0) (.int .i64 s) = some (.ptr 3 sn), h.get 3 = some (.cells (tkL tk) 25, true), ldX (.cells (tkL tk) 25, true) false 1 sn = some (.bool tb)]
theorem bd23_tk : pxR Try.prog tab (oc23 c last s n rm tk sn k cs cs' p lv v h h2 false true false false false) 50 23 (some 8) 53 bd23 (canon 53 (ov [4, 5, 6, 7, 8, 9] (lv23 s kc) g) []) h [] =
  some (.normal, [], h, [], o23a h c s kc tk sn true) := by kernel_rfl
def o23l : List Prop := [h.get 4 = some (.cells [lv] 53, true), ldX (.cells [lv] 53, true) false 1 0 = some lv]
def o23n : List Prop := [builtinI tab .len [53] [lv] h = some (.int .i64 n, h)]
def o23x (nx : Bool) : List Prop := [h.get 5 = some (.cells [.int .i64 last] 3, true), ldX (.cells [.int .i64 last] 3, true) false 1 0 = some (.int .i64 last),
    IV.int .i64 (IntKind.wrap .i64 (last + 1)) = .int .i64 (last + 1), IV.bool (s == last + 1) = .bool nx]
def o23app : List Prop := [h.get 4 = some (.cells [lv] 53, true), ldX (.cells [lv] 53, true) false 1 0 = some lv,
    builtinI tab .append [53, 53] [lv, .slice h.next 0 1 (.hard 1)] (h.new (.cells [.int .i64 s, .int .i64 1] 26)) = some (v, h2), h2.get 4 = some (.cells [lv] 53, true), stC 1 [lv] 0 v = some [v],
    (h2.put 4 (.cells [v] 53)).get 5 = some (.cells [.int .i64 last] 3, true), stC 1 [.int .i64 last] 0 (.int .i64 s) = some [.int .i64 s]]
theorem bd23_a1 : pxR Try.prog tab (oc23 c last s n rm tk sn k cs cs' p lv v h h2 false false false false false) 50 23 (some 8) 53 bd23 (canon 53 (ov [4, 5, 6, 7, 8, 9] (lv23 s kc) g) []) h [] =
  some (.normal, [], (h2.put 4 (.cells [v] 53)).put 5 (.cells [.int .i64 s] 3), [], o23a h c s kc tk sn false ++ o23l h lv ++ o23n h n lv ++ [IV.bool (decide (n > 0)) = .bool false] ++ o23app h h2 last s lv v) := by kernel_rfl
theorem bd23_a2 : pxR Try.prog tab (oc23 c last s n rm tk sn k cs cs' p lv v h h2 false false true false false) 50 23 (some 8) 53 bd23 (canon 53 (ov [4, 5, 6, 7, 8, 9] (lv23 s kc) g) []) h [] =
  some (.normal, [], (h2.put 4 (.cells [v] 53)).put 5 (.cells [.int .i64 s] 3), [], o23a h c s kc tk sn false ++ o23l h lv ++ o23n h n lv ++ [IV.bool (decide (n > 0)) = .bool true] ++ o23x h last s false ++ o23app h h2 last s lv v) := by kernel_rfl
theorem bd23_a3 : pxR Try.prog tab (oc23 c last s n rm tk sn k cs cs' p lv v h h2 false false true true false) 50 23 (some 8) 53 bd23 (canon 53 (ov [4, 5, 6, 7, 8, 9] (lv23 s kc) g) []) h [] =
  some (.normal, [], (h2.put 4 (.cells [v] 53)).put 5 (.cells [.int .i64 s] 3), [], o23a h c s kc tk sn false ++ o23l h lv ++ o23n h n lv ++ [IV.bool (decide (n > 0)) = .bool true] ++ o23x h last s true ++
    [IV.int .i64 (s.tmod 8) = .int .i64 rm, IV.bool (decide (rm > 0)) = .bool false] ++ o23app h h2 last s lv v) := by kernel_rfl
theorem bd23_inc : pxR Try.prog tab (oc23 c last s n rm tk sn k cs cs' p lv v h h2 false false true true true) 50 23 (some 8) 53 bd23 (canon 53 (ov [4, 5, 6, 7, 8, 9] (lv23 s kc) g) []) h [] =
  some (.normal, [], (h.put p (.cells cs' 26)).put 5 (.cells [.int .i64 s] 3), [], o23a h c s kc tk sn false ++ o23l h lv ++ o23n h n lv ++ [IV.bool (decide (n > 0)) = .bool true] ++ o23x h last s true ++
    [IV.int .i64 (s.tmod 8) = .int .i64 rm, IV.bool (decide (rm > 0)) = .bool true] ++ o23l h lv ++ o23l h lv ++ o23n h n lv ++
    [IV.int .i64 (IntKind.wrap .i64 (n - 1)) = .int .i64 (n - 1), indexAddrI tab 53 lv (.int .i64 (n - 1)) = some (.ptr p (2 * (n - 1).toNat)),
     indexAddrI tab 26 (.ptr p (2 * (n - 1).toNat)) (.int .i64 1) = some (.ptr p (2 * (n - 1).toNat + 1)), h.get p = some (.cells cs 26, true), ldX (.cells cs 26, true) false 1 (2 * (n - 1).toNat + 1) = some (.int .i64 k),
     IV.int .i64 (IntKind.wrap .i64 ((k : Int) + 1)) = .int .i64 ((k + 1 : Nat) : Int), indexAddrI tab 53 lv (.int .i64 (n - 1)) = some (.ptr p (2 * (n - 1).toNat)),
     indexAddrI tab 26 (.ptr p (2 * (n - 1).toNat)) (.int .i64 1) = some (.ptr p (2 * (n - 1).toNat + 1)), h.get p = some (.cells cs 26, true), stC 1 cs (2 * (n - 1).toNat + 1) (.int .i64 ((k + 1 : Nat) : Int)) = some cs',
     (h.put p (.cells cs' 26)).get 5 = some (.cells [.int .i64 last] 3, true), stC 1 [.int .i64 last] 0 (.int .i64 s) = some [.int .i64 s]]) := by kernel_rfl
theorem post23 : psR Try.prog tab (oc23 c last s n rm tk sn k cs cs' p lv lv h h2 false false true true true) 50 23 none 53 (l23.drop 4) (canon 53 (F23 g) [7]) h [6] =
  some (.ret, [.ptr 4 0], h.put 4 (.cells [lv] 53), [7], [h.get 4 = some (.cells [lv] 53, true), ldX (.cells [lv] 53, true) false 1 0 = some lv, h.get 4 = some (.cells [lv] 53, true), stC 1 [lv] 0 lv = some [lv]]) := by kernel_rfl
end
end Go.Proofs.Ytjhgomacanffkaa
namespace Go.Proofs.Ytjhgomacanffkaa
open Go Sx Go.RowKit

abbrev RSt := List (Nat × Nat) × Option (Nat × Nat)
def lastI : Option (Nat × Nat) → Int
  | none => -1
  | some (a, n) => (a : Int) + n - 1
def rstep (c : Int) (tk : Nat → Bool) (st : RSt) (a : Nat × Int) : RSt :=
  if a.2 = c ∧ tk a.1 = false then
    (match st.2 with
    | some (b, n) => if a.1 = b + n ∧ a.1 % 8 ≠ 0 then (st.1, some (b, n + 1)) else (st.1 ++ [(b, n)], some (a.1, 1))
    | none => (st.1, some (a.1, 1)))
  else st
def runsSt (S : List (Nat × Int)) (c : Int) (tk : Nat → Bool) : RSt := S.foldl (rstep c tk) ([], none)
def runL (st : RSt) : List (Nat × Nat) := st.1 ++ st.2.toList
def rcells (l : List (Nat × Nat)) : List IV := l.flatMap fun r => [.int .i64 (r.1 : Nat), .int .i64 (r.2 : Nat)]

theorem runsSt_snoc (d : List (Nat × Int)) (a : Nat × Int) (c : Int) (tk : Nat → Bool) : runsSt (d ++ [a]) c tk = rstep c tk (runsSt d c tk) a := by simp [runsSt]
theorem rcells_length : ∀ l : List (Nat × Nat), (rcells l).length = l.length * 2
  | [] => rfl
  | a :: l => by
    have := rcells_length l
    simp only [rcells] at this
    simp only [rcells, List.flatMap_cons, List.length_append, List.length_cons, List.length_nil, this]
    omega
theorem rcells_append (a b : List (Nat × Nat)) : rcells (a ++ b) = rcells a ++ rcells b := by simp [rcells]
theorem rcells_flat : ∀ l : List (Nat × Nat), flatL (rcells l) = true
  | [] => rfl
  | a :: l => by
    have := rcells_flat l
    simp only [rcells] at this
    simp only [rcells, List.flatMap_cons, List.cons_append, List.nil_append, flatL, IV.flat, Bool.true_and, this]
theorem ldC_get {cs : List IV} {o : Nat} : ldC false 1 cs o = cs[o]? := rfl

theorem tkL_length (tk : Nat → Bool) : (tkL tk).length = 64 := by simp [tkL]
theorem tkL_get {tk : Nat → Bool} {j : Nat} (h : j < 64) : (tkL tk)[j]? = some (.bool (tk j)) := by simp [tkL, h]

theorem len_slV {t e : TypeId} (ht : (tab.get t).map Ty.d = some (.slice e)) (s n : Nat) (h : H) : builtinI tab .len [t] [slV s n] h = some (.int .i64 n, h) := by
  show (lenI tab t (slV s n) h).map _ = _
  unfold lenI
  cases h1 : tab.get t with
  | none => rw [h1] at ht; cases ht
  | some ty =>
    rw [h1] at ht
    simp only [Option.map_some, Option.some.injEq] at ht
    cases n with
    | zero => simp only [ht, slV_zero]; rfl
    | succ n => simp only [ht, slV_succ]; rfl

structure J23 (x : Bx) (hv : IV) (c : Int) (tk : Nat → Bool) (g : Nat → IV) (d : List (Nat × Int)) (own : List Nat) (h : H) (s : Nat) : Prop where
  own : own = [4, 5, 8, s]
  n0 : s ≠ 0
  n2 : s ≠ 2
  n3 : s ≠ 3
  n6 : s ≠ 6
  n7 : s ≠ 7
  lt : s < h.next
  dom : ∀ i y, h.get i = some y → i < h.next
  g0 : h.get 0 = some (x, false)
  g2 : h.get 2 = some (.cells [.int .i64 c] 3, true)
  g3 : h.get 3 = some (.cells (tkL tk) 25, true)
  g6 : h.get 6 = some (.cells [hv] 24, true)
  g7 : h.get 7 = some (.defs false, true)
  g8 : h.get 8 = some (rec23 .ready g, true)
  g4 : h.get 4 = some (.cells [slV s (runL (runsSt d c tk)).length] 53, true)
  g5 : h.get 5 = some (.cells [.int .i64 (lastI (runsSt d c tk).2)] 3, true)
  gs : (runL (runsSt d c tk)).length = 0 ∨ (s ≠ 4 ∧ s ≠ 5 ∧ s ≠ 8 ∧ h.get s = some (.cells (rcells (runL (runsSt d c tk))) 26, true))
  bd : ∀ a n, (runsSt d c tk).2 = some (a, n) → a + n ≤ 64
  nn : (runsSt d c tk).2 = none → (runsSt d c tk).1 = []
  ll : (runL (runsSt d c tk)).length ≤ d.length

theorem con23 (x : Bx) (hv : IV) (c : Int) (tk : Nat → Bool) (g : Nat → IV) : Con (k23 x hv c tk g) 6 0 hv true (x, false) (fun d own h => ∃ s, J23 x hv c tk g d own h s) := by
  refine ⟨?_, ?_, ?_, ?_, ?_⟩
  · rintro d own h ⟨s, j⟩
    have := j.dom _ _ j.g8
    have := j.lt
    have := j.n0
    have := j.n6
    refine ⟨?_, ?_, ?_⟩
    · rw [j.own]
      intro i hi
      simp only [List.mem_cons, List.not_mem_nil, or_false] at hi
      omega
    · rw [j.own]; simp; omega
    · rw [j.own]; simp; omega
  · rintro d own h ⟨s, j⟩; exact j.g6
  · rintro d own h ⟨s, j⟩; exact j.g0
  · rintro d own h ⟨s, j⟩; exact j.dom
  · rintro d own h h' ⟨s, j⟩ hg hd
    exact ⟨s, j.own, j.n0, j.n2, j.n3, j.n6, j.n7, Nat.lt_of_lt_of_le j.lt hg.1, hd, hg.2 _ _ j.g0, hg.2 _ _ j.g2, hg.2 _ _ j.g3, hg.2 _ _ j.g6, hg.2 _ _ j.g7, hg.2 _ _ j.g8, hg.2 _ _ j.g4, hg.2 _ _ j.g5,
      j.gs.imp id fun ⟨a, b, c, e⟩ => ⟨a, b, c, hg.2 _ _ e⟩, j.bd, j.nn, j.ll⟩

theorem AllP.mk_append {a b : List Prop} (ha : AllP a) (hb : AllP b) : AllP (a ++ b) := by
  induction a with
  | nil => exact hb
  | cons p a ih => exact ⟨ha.1, ih ha.2⟩

/-- How a seat's round runs, by what the body does. -/
theorem yield23 {h : H} {g : Nat → IV} (s k : Int) {h2 : H} (g8 : h.get 8 = some (rec23 .ready g, true)) (h28 : h2.get 8 = some (rec23 .busy g, true))
    (hb : ∀ g1, ∃ oc, ∃ ob, pxR Try.prog tab oc 50 23 (some 8) 53 bd23 (canon 53 (ov [4, 5, 6, 7, 8, 9] (lv23 s k) g1) []) (h.put 8 (rec23 .busy g)) [] = some (.normal, [], h2, [], ob) ∧ AllP ob) :
    ClEq Try.prog (.func (.yield 8) [] []) [.int .i64 s, .int .i64 k] h (.bool true) (h2.put 8 (rec23 .ready g)) := by
  refine Cl.yield g8 rfl (by decide) ?_
  refine Ev.px tab_ok mixed (vF_is [12, 13] _ _ rfl (fun k hk => by rw [canon_tmp, if_pos hk]) (by decide)) (as23_run h g _ _) trivial fun fr1 g1 hf1 => ⟨rfl, _, _, _, _, _, _, _, g8, ?_⟩
  obtain ⟨oc, ob, h1, h2'⟩ := hb g1
  refine Ev.px tab_ok mixed hf1 h1 h2' fun fr2 g2 hf2 => ?_
  exact ⟨_, _, _, _, _, _, _, _, h28, rfl, rfl⟩

theorem cons23_skip (x : Bx) (hv : IV) (c : Int) (tk : Nat → Bool) (g : Nat → IV) {d : List (Nat × Int)} {own : List Nat} {h : H} {s : Nat} (a : Nat × Int) (ha : a.1 < 64) (hne : ¬ (a.2 = c ∧ tk a.1 = false)) (j : J23 x hv c tk g d own h s) :
    ∃ h', ClEq Try.prog (.func (.yield 8) [] []) [.int .i64 (a.1 : Nat), .int .i64 a.2] h (.bool true) h' ∧ ∃ own', (∃ s, J23 x hv c tk g (d ++ [a]) own' h' s) ∧ Kept own own' h h' := by
  have h8 := j.dom _ _ j.g8
  have hst : runsSt (d ++ [a]) c tk = runsSt d c tk := by rw [runsSt_snoc, rstep, if_neg hne]
  have b2 : (h.put 8 (rec23 .busy g)).get 2 = some (.cells [.int .i64 c] 3, true) := by rw [H.get_put, if_neg (by decide)]; exact j.g2
  have b3 : (h.put 8 (rec23 .busy g)).get 3 = some (.cells (tkL tk) 25, true) := by rw [H.get_put, if_neg (by decide)]; exact j.g3
  have b8 : (h.put 8 (rec23 .busy g)).get 8 = some (rec23 .busy g, true) := by rw [H.get_put, if_pos rfl]
  have keep : ∀ i, i ≠ 8 → ((h.put 8 (rec23 .busy g)).put 8 (rec23 .ready g)).get i = h.get i := fun i hi => by
    rw [H.get_put, if_neg (fun e => hi e.symm), H.get_put, if_neg (fun e => hi e.symm)]
  refine ⟨(h.put 8 (rec23 .busy g)).put 8 (rec23 .ready g), yield23 _ _ j.g8 b8 fun g1 => ?_, own, ⟨s, j.own, j.n0, j.n2, j.n3, j.n6, j.n7, j.lt, dom_put b8 (dom_put j.g8 j.dom), ?_, ?_, ?_, ?_, ?_, ?_, ?_, ?_, ?_, ?_, ?_, ?_⟩, Nat.le_refl _, ?_⟩
  · by_cases hc : a.2 = c
    · have ht : tk a.1 = true := by
        cases h1 : tk a.1 with
        | true => rfl
        | false => exact absurd ⟨hc, h1⟩ hne
      exact ⟨_, _, bd23_tk (h.put 8 (rec23 .busy g)) h g1 c 0 (a.1 : Nat) a.2 0 0 tk a.1 0 [] [] 0 .nilslice .nilslice, b2, rfl, by rw [hc]; simp, by rw [ix_arr t25d t4s ha]; simp, b3, by
        show (tkL tk)[a.1]? = _
        rw [tkL_get ha, ht], trivial⟩
    · exact ⟨_, _, bd23_ne (h.put 8 (rec23 .busy g)) h g1 c 0 (a.1 : Nat) a.2 0 0 tk a.1 0 [] [] 0 .nilslice .nilslice, b2, rfl, by simp [hc], trivial⟩
  · rw [keep _ (by decide)]; exact j.g0
  · rw [keep _ (by decide)]; exact j.g2
  · rw [keep _ (by decide)]; exact j.g3
  · rw [keep _ (by decide)]; exact j.g6
  · rw [keep _ (by decide)]; exact j.g7
  · rw [H.get_put, if_pos rfl]
  · rw [keep _ (by decide), hst]; exact j.g4
  · rw [keep _ (by decide), hst]; exact j.g5
  · rw [hst]
    rcases j.gs with e | ⟨e1, e2, e3, e4⟩
    · exact .inl e
    · exact .inr ⟨e1, e2, e3, by rw [keep _ e3]; exact e4⟩
  · rw [hst]; exact j.bd
  · rw [hst]; exact j.nn
  · rw [hst]; have := j.ll; simp; omega
  · intro i y hi hm
    refine ⟨?_, hm⟩
    rw [j.own] at hm
    simp only [List.mem_cons, List.not_mem_nil, or_false, not_or] at hm
    rw [keep i hm.2.2.1]
    exact hi

theorem cons23_app (x : Bx) (hv : IV) (c : Int) (tk : Nat → Bool) (g : Nat → IV) {d : List (Nat × Int)} {own : List Nat} {h : H} {s : Nat} (a : Nat × Int) (ha : a.1 < 64) (hd : d.length < 1000) (hsel : a.2 = c ∧ tk a.1 = false)
    (hno : ∀ b n, (runsSt d c tk).2 = some (b, n) → ¬ (a.1 = b + n ∧ a.1 % 8 ≠ 0)) (j : J23 x hv c tk g d own h s) :
    ∃ h', ClEq Try.prog (.func (.yield 8) [] []) [.int .i64 (a.1 : Nat), .int .i64 a.2] h (.bool true) h' ∧ ∃ own', (∃ s, J23 x hv c tk g (d ++ [a]) own' h' s) ∧ Kept own own' h h' := by
  have h8 := j.dom _ _ j.g8
  have hlt := j.lt
  have n0 := j.n0; have n2 := j.n2; have n3 := j.n3; have n6 := j.n6; have n7 := j.n7
  have hst : runsSt (d ++ [a]) c tk = (runL (runsSt d c tk), some (a.1, 1)) := by
    rw [runsSt_snoc, rstep, if_pos hsel]
    unfold runL
    cases h2 : (runsSt d c tk).2 with
    | none => simp
    | some q =>
      obtain ⟨b, n⟩ := q
      simp only
      rw [if_neg (hno b n h2)]
      rfl
  have hrl : runL (runsSt (d ++ [a]) c tk) = runL (runsSt d c tk) ++ [(a.1, 1)] := by rw [hst]; rfl
  generalize hL : runL (runsSt d c tk) = L at *
  let hb := h.put 8 (rec23 .busy g)
  let hn := hb.new (.cells [.int .i64 (a.1 : Nat), .int .i64 1] 26)
  have hnn : hn.next = h.next + 1 := rfl
  have gb : ∀ i, i ≠ 8 → hb.get i = h.get i := fun i e => by
    show (h.put 8 _).get i = _
    rw [H.get_put, if_neg (fun e' => e e'.symm)]
  have gb8 : hb.get 8 = some (rec23 .busy g, true) := by
    show (h.put 8 _).get 8 = _
    rw [H.get_put, if_pos rfl]
  have gn : ∀ i, i ≠ 8 → i ≠ h.next → hn.get i = h.get i := fun i e1 e2 => by
    show (hb.new _).get i = _
    rw [H.get_new, show hb.next = h.next from rfl, if_neg (fun e => e2 e.symm)]
    exact gb i e1
  have gn8 : hn.get 8 = some (rec23 .busy g, true) := by
    show (hb.new _).get 8 = _
    rw [H.get_new, show hb.next = h.next from rfl, if_neg (by omega)]
    exact gb8
  have gnn : hn.get h.next = some (.cells [.int .i64 (a.1 : Nat), .int .i64 1] 26, true) := by
    show (hb.new _).get h.next = _
    rw [H.get_new, show hb.next = h.next from rfl, if_pos rfl]
  have hcs : (rcells L).length = L.length * 2 := rcells_length L
  have hgs := j.gs
  have hll := j.ll
  rw [hL] at hgs hll
  have hs : L.length = 0 ∨ hn.get s = some (.cells (rcells L) 26, true) := by
    rcases hgs with e | ⟨_, _, e3, e⟩
    · exact .inl e
    · exact .inr (by rw [gn s e3 (by omega)]; exact e)
  obtain ⟨h2, hap, hnx, hnew, hold⟩ := app_one t53d t26i (by decide) (by decide) (by omega) hcs hs gnn (c := .hard 1) rfl rfl
  rw [hnn] at hap hnx hnew hold
  have hold' : ∀ i, i ≠ 8 → i < h.next → (L.length = 0 ∨ i ≠ s) → h2.get i = h.get i := fun i e1 e2 e3 => by rw [hold i (by omega) e3, gn i e1 (by omega)]
  have s8 : L.length = 0 ∨ 8 ≠ s := hgs.imp id fun ⟨_, _, e, _⟩ => fun e' => e e'.symm
  have s4 : L.length = 0 ∨ 4 ≠ s := hgs.imp id fun ⟨e, _, _, _⟩ => fun e' => e e'.symm
  have s5 : L.length = 0 ∨ 5 ≠ s := hgs.imp id fun ⟨_, e, _, _⟩ => fun e' => e e'.symm
  have h28 : h2.get 8 = some (rec23 .busy g, true) := by rw [hold 8 (by omega) s8, gn8]
  have g4 := j.g4
  have g5 := j.g5
  rw [hL] at g4
  have h24 : h2.get 4 = some (.cells [slV s L.length] 53, true) := by rw [hold' 4 (by decide) (by omega) s4]; exact g4
  have h25 : h2.get 5 = some (.cells [.int .i64 (lastI (runsSt d c tk).2)] 3, true) := by rw [hold' 5 (by decide) (by omega) s5]; exact g5
  let v := slV (h.next + 1) (L.length + 1)
  let he := (h2.put 4 (.cells [v] 53)).put 5 (.cells [.int .i64 (a.1 : Nat)] 3)
  have he8 : he.get 8 = some (rec23 .busy g, true) := by
    show ((h2.put 4 _).put 5 _).get 8 = _
    rw [H.get_put, if_neg (by decide), H.get_put, if_neg (by decide)]; exact h28
  have keep : ∀ i, i ≠ 4 → i ≠ 5 → i ≠ 8 → (he.put 8 (rec23 .ready g)).get i = h2.get i := fun i e1 e2 e3 => by
    rw [H.get_put, if_neg (fun e => e3 e.symm)]
    show ((h2.put 4 _).put 5 _).get i = _
    rw [H.get_put, if_neg (fun e => e2 e.symm), H.get_put, if_neg (fun e => e1 e.symm)]
  have d2 : ∀ i y, h2.get i = some y → i < h2.next := by
    intro i y hi
    rw [hnx]
    by_cases e : i = h.next + 1
    · omega
    · by_cases e5 : i = 8
      · omega
      · by_cases en : i = h.next
        · omega
        · rcases Nat.eq_zero_or_pos L.length with hz | hz
          · rw [hold i e (.inl hz), gn i e5 en] at hi
            have := j.dom _ _ hi
            omega
          · by_cases es : i = s
            · omega
            · rw [hold i e (.inr es), gn i e5 en] at hi
              have := j.dom _ _ hi
              omega
  have b2 : hb.get 2 = some (.cells [.int .i64 c] 3, true) := by rw [gb _ (by decide)]; exact j.g2
  have b3 : hb.get 3 = some (.cells (tkL tk) 25, true) := by rw [gb _ (by decide)]; exact j.g3
  have b4 : hb.get 4 = some (.cells [slV s L.length] 53, true) := by rw [gb _ (by decide)]; exact g4
  have b5 : hb.get 5 = some (.cells [.int .i64 (lastI (runsSt d c tk).2)] 3, true) := by rw [gb _ (by decide)]; exact g5
  have q1 : AllP (o23a hb c (a.1 : Nat) a.2 tk a.1 false) := ⟨b2, rfl, by rw [hsel.1]; simp, by rw [ix_arr t25d t4s ha]; simp, b3, by
        show (tkL tk)[a.1]? = _
        rw [tkL_get ha, hsel.2], trivial⟩
  have q2 : AllP (o23l hb (slV s L.length)) := ⟨b4, rfl, trivial⟩
  have q3 : AllP (o23n hb L.length (slV s L.length)) := ⟨len_slV t53d _ _ _, trivial⟩
  have q4 : AllP (o23app hb h2 (lastI (runsSt d c tk).2) (a.1 : Nat) (slV s L.length) v) := ⟨b4, rfl, hap, h24, st_slV _ _ _, by rw [H.get_put, if_neg (by decide)]; exact h25, rfl, trivial⟩
  have hbd := j.bd
  have hnn' := j.nn
  refine ⟨he.put 8 (rec23 .ready g), yield23 _ _ j.g8 he8 fun g1 => ?_, [4, 5, 8, h.next + 1], ⟨h.next + 1, rfl, by omega, by omega, by omega, by omega, by omega, ?_, ?_, ?_, ?_, ?_, ?_, ?_, ?_, ?_, ?_, .inr ⟨by omega, by omega, by omega, ?_⟩, ?_, ?_, ?_⟩, ?_, ?_⟩
  · cases hcur : (runsSt d c tk).2 with
    | none =>
      have hz : L = [] := by rw [← hL, runL, hnn' hcur, hcur]; rfl
      refine ⟨_, _, bd23_a1 hb h2 g1 c (lastI (runsSt d c tk).2) (a.1 : Nat) a.2 L.length 0 tk a.1 0 [] [] 0 (slV s L.length) v, ?_⟩
      exact AllP.mk_append (AllP.mk_append (AllP.mk_append (AllP.mk_append q1 q2) q3) ⟨by rw [hz]; rfl, trivial⟩) q4
    | some q =>
      obtain ⟨b, n⟩ := q
      have hb64 := hbd b n hcur
      have hlast : lastI (runsSt d c tk).2 = (b : Int) + n - 1 := by rw [hcur]; rfl
      have hpos : IV.bool (decide ((L.length : Int) > 0)) = .bool true := by
        rw [decide_eq_true]
        rw [← hL, runL, hcur]
        simp
      have hx : ∀ nx, (decide (a.1 = b + n)) = nx → AllP (o23x hb (lastI (runsSt d c tk).2) (a.1 : Nat) nx) := fun nx hnx' => ⟨b5, rfl, by
          rw [hlast, wrap64 (by omega) (by omega)], by
          rw [hlast]
          congr 1
          rw [← hnx', Bool.eq_iff_iff, beq_iff_eq, decide_eq_true_iff]
          omega, trivial⟩
      by_cases hnx' : a.1 = b + n
      · have hrem : a.1 % 8 = 0 := Classical.byContradiction fun e => hno b n hcur ⟨hnx', e⟩
        refine ⟨_, _, bd23_a3 hb h2 g1 c (lastI (runsSt d c tk).2) (a.1 : Nat) a.2 L.length 0 tk a.1 0 [] [] 0 (slV s L.length) v, ?_⟩
        refine AllP.mk_append (AllP.mk_append (AllP.mk_append (AllP.mk_append (AllP.mk_append (AllP.mk_append q1 q2) q3) ⟨hpos, trivial⟩) (hx true (by simp [hnx']))) ⟨?_, rfl, trivial⟩) q4
        have : ((a.1 : Int)).tmod 8 = ((a.1 % 8 : Nat) : Int) := rfl
        rw [this, hrem]; rfl
      · refine ⟨_, _, bd23_a2 hb h2 g1 c (lastI (runsSt d c tk).2) (a.1 : Nat) a.2 L.length 0 tk a.1 0 [] [] 0 (slV s L.length) v, ?_⟩
        exact AllP.mk_append (AllP.mk_append (AllP.mk_append (AllP.mk_append (AllP.mk_append q1 q2) q3) ⟨hpos, trivial⟩) (hx false (by simp [hnx']))) q4
  · show h.next + 1 < h2.next; omega
  · exact dom_put he8 (dom_put (x := (.cells [.int .i64 (lastI (runsSt d c tk).2)] 3, true)) (by rw [H.get_put, if_neg (by decide)]; exact h25) (dom_put h24 d2))
  · rw [keep _ (by decide) (by decide) (by decide), hold' 0 (by decide) (by omega) (.inr (by omega))]; exact j.g0
  · rw [keep _ (by decide) (by decide) (by decide), hold' 2 (by decide) (by omega) (.inr (by omega))]; exact j.g2
  · rw [keep _ (by decide) (by decide) (by decide), hold' 3 (by decide) (by omega) (.inr (by omega))]; exact j.g3
  · rw [keep _ (by decide) (by decide) (by decide), hold' 6 (by decide) (by omega) (.inr (by omega))]; exact j.g6
  · rw [keep _ (by decide) (by decide) (by decide), hold' 7 (by decide) (by omega) (.inr (by omega))]; exact j.g7
  · rw [H.get_put, if_pos rfl]
  · rw [H.get_put, if_neg (by decide)]
    show ((h2.put 4 _).put 5 _).get 4 = _
    rw [H.get_put, if_neg (by decide), H.get_put, if_pos rfl, hrl, List.length_append, List.length_singleton]
  · rw [H.get_put, if_neg (by decide)]
    show ((h2.put 4 _).put 5 _).get 5 = _
    rw [H.get_put, if_pos rfl, hst]
    simp [lastI]
  · rw [keep _ (by omega) (by omega) (by omega), hnew, hrl, rcells_append]
    rfl
  · rw [hst]; intro b n e; simp at e; omega
  · rw [hst]; intro e; cases e
  · rw [hrl]; simp; omega
  · show h.next ≤ h2.next; omega
  · intro i y hi hm
    rw [j.own] at hm
    simp only [List.mem_cons, List.not_mem_nil, or_false, not_or] at hm
    have := j.dom _ _ hi
    refine ⟨?_, by simp; omega⟩
    rw [keep i hm.1 hm.2.1 hm.2.2.1, hold' i hm.2.2.1 (by omega) (.inr hm.2.2.2)]
    exact hi
end Go.Proofs.Ytjhgomacanffkaa
namespace Go.Proofs.Ytjhgomacanffkaa
open Go Sx Go.RowKit

theorem rcells_last (l : List (Nat × Nat)) (b n : Nat) : (rcells (l ++ [(b, n)]))[2 * l.length + 1]? = some (.int .i64 (n : Nat)) := by
  rw [rcells_append, List.getElem?_append_right (by rw [rcells_length]; omega), rcells_length, show 2 * l.length + 1 - l.length * 2 = 1 by omega]
  rfl
theorem rcells_set (l : List (Nat × Nat)) (b n m : Nat) : stC 1 (rcells (l ++ [(b, n)])) (2 * l.length + 1) (.int .i64 (m : Nat)) = some (rcells (l ++ [(b, m)])) := by
  unfold stC
  have hl : (rcells (l ++ [(b, n)])).length = l.length * 2 + 2 := by rw [rcells_length]; simp; omega
  rw [show Nat.ble (2 * l.length + 1 + 1) (rcells (l ++ [(b, n)])).length = true by rw [hl]; exact Nat.ble_eq_true_of_le (by omega)]
  simp only [IV.cells, List.length_cons, List.length_nil, List.all_cons, List.all_nil, IV.one, Bool.and_true, Bool.and_self, splice]
  have : (rcells (l ++ [(b, n)])).set (2 * l.length + 1) (.int .i64 (m : Nat)) = rcells (l ++ [(b, m)]) := by
    rw [rcells_append, rcells_append, List.set_append_right _ _ (by rw [rcells_length]; omega), rcells_length, show 2 * l.length + 1 - l.length * 2 = 1 by omega]
    rfl
  rw [this]; rfl

theorem cons23_inc (x : Bx) (hv : IV) (c : Int) (tk : Nat → Bool) (g : Nat → IV) {d : List (Nat × Int)} {own : List Nat} {h : H} {s : Nat} (a : Nat × Int) (ha : a.1 < 64) (hd : d.length < 1000) (hsel : a.2 = c ∧ tk a.1 = false)
    {b n : Nat} (hcur : (runsSt d c tk).2 = some (b, n)) (hyes : a.1 = b + n ∧ a.1 % 8 ≠ 0) (j : J23 x hv c tk g d own h s) :
    ∃ h', ClEq Try.prog (.func (.yield 8) [] []) [.int .i64 (a.1 : Nat), .int .i64 a.2] h (.bool true) h' ∧ ∃ own', (∃ s, J23 x hv c tk g (d ++ [a]) own' h' s) ∧ Kept own own' h h' := by
  have h8 := j.dom _ _ j.g8
  have hlt := j.lt
  have n0 := j.n0; have n2 := j.n2; have n3 := j.n3; have n6 := j.n6; have n7 := j.n7
  have hst : runsSt (d ++ [a]) c tk = ((runsSt d c tk).1, some (b, n + 1)) := by
    rw [runsSt_snoc, rstep, if_pos hsel, hcur]
    simp only
    rw [if_pos hyes]
  have hrl : runL (runsSt (d ++ [a]) c tk) = (runsSt d c tk).1 ++ [(b, n + 1)] := by rw [hst]; rfl
  have hro : runL (runsSt d c tk) = (runsSt d c tk).1 ++ [(b, n)] := by rw [runL, hcur]; rfl
  have hb64 := j.bd b n hcur
  have hgs := j.gs
  have hll := j.ll
  have g4 := j.g4
  have g5 := j.g5
  have hlast : lastI (runsSt d c tk).2 = (b : Int) + n - 1 := by rw [hcur]; rfl
  rw [hro] at hgs g4 hll
  rw [hlast] at g5
  generalize (runsSt d c tk).1 = l1 at *
  have hlen : (l1 ++ [(b, n)]).length = l1.length + 1 := by simp
  rw [hlen] at hgs g4 hll
  obtain ⟨s4, s5, s8, gs⟩ : s ≠ 4 ∧ s ≠ 5 ∧ s ≠ 8 ∧ h.get s = some (.cells (rcells (l1 ++ [(b, n)])) 26, true) := by
    rcases hgs with e | e
    · omega
    · exact e
  let hb := h.put 8 (rec23 .busy g)
  have gb : ∀ i, i ≠ 8 → hb.get i = h.get i := fun i e => by
    show (h.put 8 _).get i = _
    rw [H.get_put, if_neg (fun e' => e e'.symm)]
  have gb8 : hb.get 8 = some (rec23 .busy g, true) := by
    show (h.put 8 _).get 8 = _
    rw [H.get_put, if_pos rfl]
  let cs' := rcells (l1 ++ [(b, n + 1)])
  let he := (hb.put s (.cells cs' 26)).put 5 (.cells [.int .i64 (a.1 : Nat)] 3)
  have he8 : he.get 8 = some (rec23 .busy g, true) := by
    show ((hb.put s _).put 5 _).get 8 = _
    rw [H.get_put, if_neg (by decide), H.get_put, if_neg s8]; exact gb8
  have keep : ∀ i, i ≠ s → i ≠ 5 → i ≠ 8 → (he.put 8 (rec23 .ready g)).get i = h.get i := fun i e1 e2 e3 => by
    rw [H.get_put, if_neg (fun e => e3 e.symm)]
    show ((hb.put s _).put 5 _).get i = _
    rw [H.get_put, if_neg (fun e => e2 e.symm), H.get_put, if_neg (fun e => e1 e.symm)]
    exact gb i e3
  have b2 : hb.get 2 = some (.cells [.int .i64 c] 3, true) := by rw [gb _ (by decide)]; exact j.g2
  have b3 : hb.get 3 = some (.cells (tkL tk) 25, true) := by rw [gb _ (by decide)]; exact j.g3
  have b4 : hb.get 4 = some (.cells [slV s (l1.length + 1)] 53, true) := by rw [gb _ (by decide)]; exact g4
  have b5 : hb.get 5 = some (.cells [.int .i64 ((b : Int) + n - 1)] 3, true) := by rw [gb _ (by decide)]; exact g5
  have bs : hb.get s = some (.cells (rcells (l1 ++ [(b, n)])) 26, true) := by rw [gb _ s8]; exact gs
  have q1 : AllP (o23a hb c (a.1 : Nat) a.2 tk a.1 false) := ⟨b2, rfl, by rw [hsel.1]; simp, by rw [ix_arr t25d t4s ha]; simp, b3, by
        show (tkL tk)[a.1]? = _
        rw [tkL_get ha, hsel.2], trivial⟩
  have q2 : AllP (o23l hb (slV s (l1.length + 1))) := ⟨b4, rfl, trivial⟩
  have q3 : AllP (o23n hb ((l1.length + 1 : Nat) : Int) (slV s (l1.length + 1))) := ⟨len_slV t53d _ _ _, trivial⟩
  have e1 : (((l1.length + 1 : Nat) : Int) - 1).toNat = l1.length := by omega
  have ix1 : indexAddrI tab 53 (slV s (l1.length + 1)) (.int .i64 (((l1.length + 1 : Nat) : Int) - 1)) = some (.ptr s (2 * (((l1.length + 1 : Nat) : Int) - 1).toNat)) := by
    rw [e1, show (((l1.length + 1 : Nat) : Int) - 1) = (l1.length : Nat) by omega, slV_succ, ix_sl t53d t26s (by omega)]
    congr 2
    omega
  have ix2 : indexAddrI tab 26 (.ptr s (2 * (((l1.length + 1 : Nat) : Int) - 1).toNat)) (.int .i64 1) = some (.ptr s (2 * (((l1.length + 1 : Nat) : Int) - 1).toNat + 1)) := by
    have := ix_arr (T := tab) (k := .i64) (b := s) (o := 2 * (((l1.length + 1 : Nat) : Int) - 1).toNat) (i := 1) t26d t3s (by decide)
    exact this
  refine ⟨he.put 8 (rec23 .ready g), yield23 _ _ j.g8 he8 fun g1 => ⟨_, _, bd23_inc hb h g1 c ((b : Int) + n - 1) (a.1 : Nat) a.2 ((l1.length + 1 : Nat) : Int) ((a.1 % 8 : Nat) : Int) tk a.1 n (rcells (l1 ++ [(b, n)])) cs' s (slV s (l1.length + 1)) .nilslice, ?_⟩, own,
    ⟨s, j.own, n0, n2, n3, n6, n7, hlt, dom_put he8 (dom_put (x := (.cells [.int .i64 ((b : Int) + n - 1)] 3, true)) (by rw [H.get_put, if_neg s5]; exact b5) (dom_put bs (dom_put j.g8 j.dom))), ?_, ?_, ?_, ?_, ?_, ?_, ?_, ?_, .inr ⟨s4, s5, s8, ?_⟩, ?_, ?_, ?_⟩, Nat.le_refl _, ?_⟩
  · have q4 : AllP [IV.bool (decide (((l1.length + 1 : Nat) : Int) > 0)) = .bool true] := ⟨by rw [decide_eq_true (by omega)], trivial⟩
    have q5 : AllP (o23x hb ((b : Int) + n - 1) (a.1 : Nat) true) := ⟨b5, rfl, by rw [wrap64 (by omega) (by omega)], by
        congr 1
        rw [beq_iff_eq]
        omega, trivial⟩
    refine AllP.mk_append (AllP.mk_append (AllP.mk_append (AllP.mk_append (AllP.mk_append (AllP.mk_append (AllP.mk_append (AllP.mk_append (AllP.mk_append q1 q2) q3) q4) q5) ⟨rfl, ?_, trivial⟩) q2) q2) q3) ⟨?_, ix1, ix2, bs, ?_, w_i (by omega), ix1, ix2, bs, ?_, ?_, rfl, trivial⟩
    · rw [decide_eq_true (by omega)]
    · rw [wrap64 (by omega) (by omega)]
    · rw [e1]; exact rcells_last l1 b n
    · rw [e1]; exact rcells_set l1 b n (n + 1)
    · rw [H.get_put, if_neg s5]; exact b5
  · rw [keep _ (by omega) (by decide) (by decide)]; exact j.g0
  · rw [keep _ (by omega) (by decide) (by decide)]; exact j.g2
  · rw [keep _ (by omega) (by decide) (by decide)]; exact j.g3
  · rw [keep _ (by omega) (by decide) (by decide)]; exact j.g6
  · rw [keep _ (by omega) (by decide) (by decide)]; exact j.g7
  · rw [H.get_put, if_pos rfl]
  · rw [keep _ (by omega) (by decide) (by decide), hrl]
    simpa using g4
  · rw [H.get_put, if_neg (by decide)]
    show ((hb.put s _).put 5 _).get 5 = _
    rw [H.get_put, if_pos rfl, hst]
    simp only [lastI]
    rw [hyes.1]
    congr 5
    omega
  · rw [H.get_put, if_neg (fun e => s8 e.symm)]
    show ((hb.put s _).put 5 _).get s = _
    rw [H.get_put, if_neg (fun e => s5 e.symm), H.get_put, if_pos rfl, hrl]
  · rw [hst]
    intro b' n' e
    simp only [Option.some.injEq, Prod.mk.injEq] at e
    omega
  · rw [hst]; intro e; cases e
  · rw [hrl]; simp; omega
  · intro i y hi hm
    refine ⟨?_, hm⟩
    rw [j.own] at hm
    simp only [List.mem_cons, List.not_mem_nil, or_false, not_or] at hm
    rw [keep i hm.2.2.2 hm.2.1 hm.2.2.1]
    exact hi

theorem rowS_range (i : Nat) (r : Int × Int) : ∀ k p a, a ∈ rowS i r k p → 8 * i + p ≤ a.1 ∧ a.1 < 8 * i + p + k
  | 0, _, a, h => by simp [rowS] at h
  | k + 1, p, a, h => by
    simp only [rowS, List.mem_append] at h
    rcases h with h | h
    · split at h
      · simp at h; subst h; simp only; omega
      · simp at h
    · have := rowS_range i r k (p + 1) a h
      omega
theorem allS_range : ∀ (rs : List (Int × Int)) (i : Nat) (a), a ∈ allS rs i → 8 * i ≤ a.1 ∧ a.1 < 8 * (i + rs.length)
  | [], _, a, h => by simp [allS] at h
  | r :: rs, i, a, h => by
    simp only [allS, List.mem_append] at h
    simp only [List.length_cons]
    rcases h with h | h
    · have := rowS_range i r 8 0 a h
      omega
    · have := allS_range rs (i + 1) a h
      omega

def runs (rs : List (Int × Int)) (c : Int) (tk : Nat → Bool) : List (Nat × Nat) := runL (runsSt (allS rs 0) c tk)

theorem runs_sp {x : Bx} {off n : Nat} {cp : Cap} {rs : List (Int × Int)} (hx : HallX x off n cp rs) (c : Int) (tk : Nat → Bool) :
    Sp Try.prog 23 [.agg [.slice 0 off n cp], .int .i64 c, .agg (tkL tk)] (boxH [x]) fun v' h' => ∃ s, v' = slV s (runs rs c tk).length ∧ ((runs rs c tk).length = 0 ∨ (h'.get s = some (.cells (rcells (runs rs c tk)) 26, true) ∧ [x].length ≤ s)) ∧
      ∀ i y, (boxH [x]).get i = some y → h'.get i = some y := by
  obtain ⟨c', hcut⟩ := hx.cut
  have h8 := hx.len
  have hSl := allS_length rs 0
  refine Sp.of_ev tab_ok Try.func23 (c := bodyC Try.prog 23) (by kernel_rfl) (Nat.le_of_ble_eq_true rfl) ?_
  show Ev Try.prog none 53 (bodyC Try.prog 23) (BodyQ tab [.cell 6 53] _) _ _
  refine Ev.of_flat l23_eq ?_
  refine EvS.px tab_ok mixed (FrIs.start 53 _) (by simp) (pre23 x (.slice 0 off n cp) c tk) trivial fun fr g hf => ?_
  refine Ev.block (Ev.canon hf ?_)
  refine Ev.rangeFunc_none (fv23_ev g) rfl enters35 ?_
  refine Cl.of_sp enters35 ?_
  have hd0 : ∀ i y, (k23 x (.slice 0 off n cp) c tk g).get i = some y → i < (k23 x (.slice 0 off n cp) c tk g).next := dom_new (dom_new (dom_new (dom_new (dom_new (dom_new (dom_new (dom_new dom_boxH)))))))
  have j0 : J23 x (.slice 0 off n cp) c tk g [] [4, 5, 8, 8] (k23 x (.slice 0 off n cp) c tk g) 8 := ⟨rfl, by decide, by decide, by decide, by decide, by decide, Nat.le_of_ble_eq_true rfl, hd0,
    by kernel_rfl, by kernel_rfl, by kernel_rfl, by kernel_rfl, by kernel_rfl, by kernel_rfl, by kernel_rfl, by kernel_rfl, .inl rfl, fun a n e => (nomatch e), fun _ => rfl, Nat.le_refl _⟩
  refine Sp.mono (sp35 (h0 := k23 x (.slice 0 off n cp) c tk g) _ (fun _ => False) (con23 x (.slice 0 off n cp) c tk g) (hx.rows false) hx.len hx.m (fun h hh => hcut 0 h false hh) ?_ ⟨8, j0⟩) ?_
  · intro d s t own h hd hj
    have hdl : d.length < 1000 := by
      have := congrArg List.length hd
      simp at this
      omega
    have hs64 : s.1 < 64 := by
      have := allS_range rs 0 s (by rw [← hd]; simp)
      omega
    obtain ⟨q, j⟩ := hj
    by_cases hsel : s.2 = c ∧ tk s.1 = false
    case neg =>
      obtain ⟨h', h1, h2⟩ := cons23_skip x _ c tk g s hs64 hsel j
      exact ⟨true, h', h1, .inl ⟨rfl, h2⟩⟩
    cases hcur : (runsSt d c tk).2 with
    | none =>
      obtain ⟨h', h1, h2⟩ := cons23_app x _ c tk g s hs64 hdl hsel (fun b n e => by rw [hcur] at e; cases e) j
      exact ⟨true, h', h1, .inl ⟨rfl, h2⟩⟩
    | some bn =>
      obtain ⟨b, n⟩ := bn
      by_cases hyes : s.1 = b + n ∧ s.1 % 8 ≠ 0
      · obtain ⟨h', h1, h2⟩ := cons23_inc x _ c tk g s hs64 hdl hsel hcur hyes j
        exact ⟨true, h', h1, .inl ⟨rfl, h2⟩⟩
      · obtain ⟨h', h1, h2⟩ := cons23_app x _ c tk g s hs64 hdl hsel (fun b' n' e => by rw [hcur] at e; cases e; exact hyes) j
        exact ⟨true, h', h1, .inl ⟨rfl, h2⟩⟩
  rintro v h3 ⟨rfl, hh⟩
  rcases hh with ⟨own, s, j⟩ | hh
  case inr => exact hh.elim
  have g4 := j.g4
  have gs := j.gs
  change h3.get 4 = some (.cells [slV s (runs rs c tk).length] 53, true) at g4
  refine ⟨_, _, _, _, _, _, _, _, j.g8, by simp, ?_⟩
  have k4 : (h3.kill 8).get 4 = some (.cells [slV s (runs rs c tk).length] 53, true) := by rw [H.get_kill, if_neg (by decide)]; exact g4
  refine EvS.pxEnd (F := F23 g) (ms := [7]) tab_ok mixed ⟨rfl, fun j hj => by rw [canon_tmp, if_pos hj]; rfl⟩ (List.cons_ne_nil _ _) (post23 (h3.kill 8) (h3.kill 8) g 0 0 0 0 0 tk 0 0 [] [] 0 (slV s (runs rs c tk).length)) ⟨k4, rfl, k4, st_slV _ _ _, trivial⟩ fun fr2 g2 hf2 => ?_
  have e2 : fr2.tm.tmp 6 = .ptr 4 0 := hf2.2 6 (by decide)
  have n7 := j.n7
  refine ⟨.inr rfl, ((h3.kill 8).put 4 (.cells [slV s (runs rs c tk).length] 53)).kill 7, [slV s (runs rs c tk).length], ?_, ?_, s, rfl, ?_, ?_⟩
  · have e4 : ((h3.kill 8).put 4 (.cells [slV s (runs rs c tk).length] 53)).get 7 = some (.defs false, true) := by
      rw [H.get_put, if_neg (by decide), H.get_kill, if_neg (by decide)]; exact j.g7
    rw [hf2.1]
    simp only [takeMarks, e4]
  · have e2' : (((h3.kill 8).put 4 (.cells [slV s (runs rs c tk).length] 53)).kill 7).get 4 = some (.cells [slV s (runs rs c tk).length] 53, true) := by
      rw [H.get_kill, if_neg (by decide), H.get_put, if_pos rfl]
    have h1 : (tab.get 53).map (fun y => (y.size, aggD y.d)) = some (1, false) := by kernel_rfl
    simp only [resI, e2]
    cases ht : tab.get 53 with
    | none => rw [ht] at h1; cases h1
    | some ty =>
      rw [ht] at h1
      simp only [Option.map_some, Option.some.injEq, Prod.mk.injEq] at h1
      simp only [h1.1, h1.2, loadI, e2']
      rfl
  · rcases gs with e | ⟨e1, e2, e3, e4⟩
    · exact .inl e
    · refine .inr ⟨?_, ?_⟩
      · rw [H.get_kill, if_neg (fun e => n7 e.symm), H.get_put, if_neg (fun e => e1 e.symm), H.get_kill, if_neg (fun e => e3 e.symm)]; exact e4
      · have := j.n0; simp; omega
  · intro i y hi
    rw [boxH_get] at hi
    have hi0 : i = 0 := by
      cases i with
      | zero => rfl
      | succ i => simp at hi
    subst hi0
    rw [H.get_kill, if_neg (by decide), H.get_put, if_neg (by decide), H.get_kill, if_neg (by decide), j.g0]
    simpa using hi

theorem runs_cl {x : Bx} {off n : Nat} {cp : Cap} {rs : List (Int × Int)} (hx : HallX x off n cp rs) (c : Int) (tk : Nat → Bool) {h : H} {b : Nat} {wr : Bool} (hb : h.get b = some (x, wr)) :
    ClEq Try.prog (.func (.func 23) [] []) [.agg [.slice b off n cp], .int .i64 c, .agg (tkL tk)] h (slV h.next (runs rs c tk).length) (newL h (runs rs c tk).length (rcells (runs rs c tk)) 26) := by
  refine Cl.of_sp (first := []) (cap := []) enters23 ?_
  have hul : underLB 1 (tkL tk) = true := by
    unfold tkL
    generalize List.range 64 = l
    induction l with
    | nil => rfl
    | cons a l ih => simp only [List.map_cons, underLB, IV.underB, Bool.true_and, ih]
  have hrn : ∀ f, renL f (tkL tk) = tkL tk := fun f => by
    unfold tkL
    generalize List.range 64 = l
    induction l with
    | nil => rfl
    | cons a l ih => simp only [List.map_cons, renL, IV.ren, ih]
  have := Sp.list (bs := [x]) (by simp [hx.fl]) (by simp [underLB, IV.underB, hul]) (rcells_flat _) (runs_sp hx c tk) (H0 := h) (fun _ => b) (fun i o ho => by
    cases i with
    | zero => simp at ho; subst ho; exact ⟨wr, hb⟩
    | succ i => simp at ho) (fun i j hi hj _ => by simp at hi hj; omega)
  simp only [renL, IV.ren, hrn] at this
  exact this
end Go.Proofs.Ytjhgomacanffkaa
