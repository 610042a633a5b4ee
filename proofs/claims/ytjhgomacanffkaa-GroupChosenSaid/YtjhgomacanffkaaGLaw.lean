/- The laws' own lengths and made as contracts. -/
import Derived.Test.YtjhgomacanffkaaGChoose
namespace Go.Proofs.Ytjhgomacanffkaa
open Go Sx Go.RowKit

noncomputable def l12 : List Code := flat (bodyC Try.prog 12)
theorem l12_eq : flat (bodyC Try.prog 12) = l12.take 3 ++ (.block 0 (.loop (loopAt l12 3)) :: l12.drop 4) := by kernel_rfl
noncomputable def r12 : List Code := flat (loopAt l12 3)
theorem r12_eq : flat (loopAt l12 3) = r12.take 2 ++ (.block 1 (blkAt r12 2) :: r12.drop 3) := by kernel_rfl
noncomputable def m12 : List Code := flat (blkAt r12 2)
theorem m12_eq : flat (blkAt r12 2) = m12.take 2 ++ (.block 2 (.loop (loopAt m12 2)) :: []) := by kernel_rfl
theorem enters12 : Go.Proofs.Enters Try.prog 12 := Go.Proofs.enters_of Try.func12 (by kernel_rfl) rfl

def oc12 (hv : IV) (off i p : Nat) (r : Int × Int) (x : Bx) (tk : Nat → Bool) (s a : Int) (k : Nat) (v : IV) (h2 : H) (lt p8 ceq bt tb kp : Bool) : Nat → Nat → Option It := fun f t => match f, t with
  | 12, 13 => some (.l hv (.cells [hv] 24, true))
  | 12, 15 => some (.w (.bool lt))
  | 12, 17 => some (.w (.int .i64 ((i + 1 : Nat) : Int)))
  | 12, 19 => some (.w (.bool lt))
  | 12, 23 => some (.w (.bool p8))
  | 12, 26 => some (.l hv (.cells [hv] 24, true))
  | 12, 28 => some (.o (.ptr 0 (off + i * 2)))
  | 12, 30 => some (.l (.int .i64 r.1) (x, false))
  | 12, 32 => some (.w (.bool ceq))
  | 12, 36 => some (.l hv (.cells [hv] 24, true))
  | 12, 38 => some (.o (.ptr 0 (off + i * 2)))
  | 12, 40 => some (.l (.int .u8 r.2) (x, false))
  | 12, 42 => some (.o (.int .u8 s))
  | 12, 43 => some (.w (.int .u8 a))
  | 12, 44 => some (.w (.bool bt))
  | 12, 48 => some (.w (.int .i64 ((8 * i : Nat) : Int)))
  | 12, 50 => some (.w (.int .i64 ((8 * i + p : Nat) : Int)))
  | 12, 51 => some (.o (.ptr 2 (8 * i + p)))
  | 12, 52 => some (.l (.bool tb) (.cells (tkL tk) 25, true))
  | 12, 56 => some (.w (.int .i64 ((k + 1 : Nat) : Int)))
  | 12, 58 => some (.w (.bool kp))
  | 12, 62 => some (.g v h2)
  | 12, 21 => some (.w (.int .i64 ((p + 1 : Nat) : Int)))
  | _, _ => none

section
variable (h h2 : H) (g : Nat → IV) (off n i p : Nat) (cp : Cap) (r : Int × Int) (x : Bx) (tk : Nat → Bool) (s a c : Int) (k : Nat) (lv v : IV)
abbrev hvS (off n : Nat) (cp : Cap) : IV := .slice 0 off n cp
theorem pre12 : psR Try.prog tab (fun _ _ => none) 50 12 none 64 (l12.take 3) (canon 64 (fun j => [IV.agg [hvS off n cp], .agg (tkL tk), .int .i64 c].getD j undefI) []) (boxH [x]) [2, 3, 4, 7, 8] =
  some (.normal, [.int .i64 c, .ptr 1 0, .ptr 2 0, .nilslice, .int .i64 (0 : Nat)], ((boxH [x]).new (.cells [hvS off n cp] 24)).new (.cells (tkL tk) 25), [], []) := by kernel_rfl
def lvA (c : Int) (lv : IV) (i : Nat) : List IV := [.int .i64 c, .ptr 1 0, .ptr 2 0, lv, .int .i64 (i : Nat)]
def oh (h : H) (hv : IV) : List Prop := [h.get 1 = some (.cells [hv] 24, true), ldX (.cells [hv] 24, true) false 1 0 = some hv]
theorem r12_end : psR Try.prog tab (oc12 (hvS off n cp) off i p r x tk s a k v h2 false true true true true true) 50 12 none 64 (r12.take 2) (canon 64 (ov [2, 3, 4, 7, 8] (lvA c lv i) g) []) h [7] =
  some (.exit 0, [lv], h, [], oh h (hvS off n cp) ++ [IV.bool (decide ((i : Int) < n)) = .bool false]) := by kernel_rfl
theorem r12_go : psR Try.prog tab (oc12 (hvS off n cp) off i p r x tk s a k v h2 true true true true true true) 50 12 none 64 (r12.take 2) (canon 64 (ov [2, 3, 4, 7, 8] (lvA c lv i) g) []) h [2, 3, 4, 7, 8] =
  some (.normal, lvA c lv i, h, [], oh h (hvS off n cp) ++ [IV.bool (decide ((i : Int) < n)) = .bool true]) := by kernel_rfl
def lvB (c : Int) (lv : IV) (i k p : Nat) : List IV := [.int .i64 c, .ptr 1 0, .ptr 2 0, lv, .int .i64 (i : Nat), .int .i64 (k : Nat), .int .i64 (p : Nat)]
theorem m12_pre : psR Try.prog tab (fun _ _ => none) 50 12 none 64 (m12.take 2) (canon 64 (ov [2, 3, 4, 7, 8] (lvA c lv i) g) []) h [2, 3, 4, 7, 8, 9, 10] =
  some (.normal, lvB c lv i 0 0, h, [], []) := by kernel_rfl
theorem r12_inc : psR Try.prog tab (oc12 (hvS off n cp) off i p r x tk s a k v h2 true true true true true true) 50 12 none 64 (r12.drop 3) (canon 64 (ov [2, 3, 4, 7, 8] (lvA c lv i) g) []) h [2, 3, 4, 7, 8] =
  some (.normal, lvA c lv (i + 1), h, [], [IV.int .i64 (IntKind.wrap .i64 ((i : Int) + 1)) = .int .i64 ((i + 1 : Nat) : Int)]) := by kernel_rfl
theorem in12_end : pxR Try.prog tab (oc12 (hvS off n cp) off i p r x tk s a k v h2 false true true true true true) 50 12 none 64 (loopAt m12 2) (canon 64 (ov [2, 3, 4, 7, 8, 9, 10] (lvB c lv i k p) g) []) h [2, 3, 4, 7, 8] =
  some (.exit 2, lvA c lv i, h, [], [IV.bool (decide ((p : Int) ≤ 8)) = .bool false]) := by kernel_rfl
def selB (p8 ceq bt tb : Bool) : Bool := p8 && (ceq && (bt && !tb))
def o12 (p8 ceq bt tb : Bool) : List Prop := [IV.bool (decide ((p : Int) ≤ 8)) = .bool true, IV.bool (decide ((p : Int) < 8)) = .bool p8] ++
  (bif p8 then oh h (hvS off n cp) ++ [indexAddrI tab 22 (hvS off n cp) (.int .i64 i) = some (.ptr 0 (off + i * 2)), h.get 0 = some (x, false), ldX (x, false) false 1 (off + i * 2) = some (.int .i64 r.1), IV.bool (r.1 == c) = .bool ceq] ++
    (bif ceq then oh h (hvS off n cp) ++ [indexAddrI tab 22 (hvS off n cp) (.int .i64 i) = some (.ptr 0 (off + i * 2)), h.get 0 = some (x, false), ldX (x, false) false 1 (off + i * 2 + 1) = some (.int .u8 r.2),
        binI tab .shr 5 (.tmp 0) (.tmp 0) (.int .u8 r.2) (.int .i64 p) = some (.int .u8 s), IV.int .u8 (IntKind.wrap .u8 (BitVec.ofInt 8 s &&& BitVec.ofInt 8 1).toNat) = .int .u8 a, IV.bool (a == 1) = .bool bt] ++
      (bif bt then [IV.int .i64 (IntKind.wrap .i64 (8 * (i : Int))) = .int .i64 ((8 * i : Nat) : Int), IV.int .i64 (IntKind.wrap .i64 (((8 * i : Nat) : Int) + p)) = .int .i64 ((8 * i + p : Nat) : Int),
        indexAddrI tab 25 (.ptr 2 0) (.int .i64 ((8 * i + p : Nat) : Int)) = some (.ptr 2 (8 * i + p)), h.get 2 = some (.cells (tkL tk) 25, true), ldX (.cells (tkL tk) 25, true) false 1 (8 * i + p) = some (.bool tb)] else []) else []) else [])
theorem in12_go (p8 ceq bt tb kp : Bool) : pxR Try.prog tab (oc12 (hvS off n cp) off i p r x tk s a k v h2 true p8 ceq bt tb kp) 50 12 none 64 (loopAt m12 2) (canon 64 (ov [2, 3, 4, 7, 8, 9, 10] (lvB c lv i k p) g) []) h [2, 3, 4, 7, 8, 9, 10] =
  some (.normal, bif selB p8 ceq bt tb then lvB c lv i (k + 1) (p + 1) else (bif kp then lvB c v i 0 (p + 1) else lvB c lv i 0 (p + 1)), bif selB p8 ceq bt tb then h else (bif kp then h2 else h), [],
    o12 h off n i p cp r x tk s a c p8 ceq bt tb ++ (bif selB p8 ceq bt tb then [IV.int .i64 (IntKind.wrap .i64 ((k : Int) + 1)) = .int .i64 ((k + 1 : Nat) : Int)] else
      ([IV.bool (decide ((k : Int) > 0)) = .bool kp] ++ (bif kp then [builtinI tab .append [27, 27] [lv, .slice h.next 0 1 (.hard 1)] (h.new (.cells [.int .i64 (k : Nat)] 3)) = some (v, h2)] else []))) ++
    [IV.int .i64 (IntKind.wrap .i64 ((p : Int) + 1)) = .int .i64 ((p + 1 : Nat) : Int)]) := by
  cases p8 <;> cases ceq <;> cases bt <;> cases tb <;> cases kp <;> kernel_rfl
theorem post12 : psR Try.prog tab (fun _ _ => none) 50 12 none 64 (l12.drop 4) (canon 64 (ov [7] [lv] g) []) h [6] = some (.ret, [lv], h, [], []) := by kernel_rfl
end
end Go.Proofs.Ytjhgomacanffkaa
namespace Go.Proofs.Ytjhgomacanffkaa
open Go Sx Go.RowKit

def selAt (c : Int) (tk : Nat → Bool) (i : Nat) (r : Int × Int) (p : Nat) : Bool := selB (decide (p < 8)) (decide (r.1 = c)) (bit r.2 p) (tk (8 * i + p))
def lstep (sel : Bool) (st : List Nat × Nat) : List Nat × Nat := bif sel then (st.1, st.2 + 1) else (bif decide (0 < st.2) then (st.1 ++ [st.2], 0) else (st.1, 0))
def lRow (c : Int) (tk : Nat → Bool) (i : Nat) (r : Int × Int) : Nat → Nat → List Nat × Nat → List Nat × Nat
  | 0, _, st => st
  | m + 1, p, st => lRow c tk i r m (p + 1) (lstep (selAt c tk i r p) st)
def lAll (c : Int) (tk : Nat → Bool) : List (Int × Int) → Nat → List Nat → List Nat
  | [], _, out => out
  | r :: rs, i, out => lAll c tk rs (i + 1) (lRow c tk i r 9 0 (out, 0)).1

structure J12 (x : Bx) (hv : IV) (tk : Nat → Bool) (h : H) (s : Nat) (out : List Nat) : Prop where
  dom : ∀ i y, h.get i = some y → i < h.next
  g0 : h.get 0 = some (x, false)
  g1 : h.get 1 = some (.cells [hv] 24, true)
  g2 : h.get 2 = some (.cells (tkL tk) 25, true)
  gs : out.length = 0 ∨ (2 < s ∧ s < h.next ∧ h.get s = some (.cells (nints out) 3, true))

theorem lengths_sp {x : Bx} {off n : Nat} {cp : Cap} {rs : List (Int × Int)} (hx : HallX x off n cp rs) (hn : rs.length = n) (c : Int) (tk : Nat → Bool) :
    Sp Try.prog 12 [.agg [.slice 0 off n cp], .agg (tkL tk), .int .i64 c] (boxH [x]) fun v' h' => ∃ s, v' = slV s (lAll c tk rs 0 []).length ∧
      ((lAll c tk rs 0 []).length = 0 ∨ (h'.get s = some (.cells (nints (lAll c tk rs 0 [])) 3, true) ∧ [x].length ≤ s)) ∧ ∀ i y, (boxH [x]).get i = some y → h'.get i = some y := by
  have h8 : rs.length ≤ 8 := by have := hx.len; omega
  let hv : IV := .slice 0 off n cp
  refine Sp.of_ev tab_ok Try.func12 (c := bodyC Try.prog 12) (by kernel_rfl) (Nat.le_of_ble_eq_true rfl) ?_
  show Ev Try.prog none 64 (bodyC Try.prog 12) (BodyQ tab [.tmp 6] _) _ _
  refine Ev.of_flat l12_eq ?_
  refine EvS.px tab_ok mixed (FrIs.start 64 _) (by simp) (pre12 off n cp x tk c) trivial fun fr g hf => ?_
  have j0 : J12 x hv tk (((boxH [x]).new (.cells [hv] 24)).new (.cells (tkL tk) 25)) 0 [] := ⟨dom_new (dom_new dom_boxH), by kernel_rfl, by kernel_rfl, by kernel_rfl, .inl rfl⟩
  refine EvS.loop (fun t fr h => ∃ i s out, i ≤ rs.length ∧ t = rs.length - i ∧ lAll c tk (rs.drop i) i out = lAll c tk rs 0 [] ∧ out.length ≤ 9 * i ∧ J12 x hv tk h s out ∧ ∃ g, FrIs 64 fr (ov [2, 3, 4, 7, 8] (lvA c (slV s out.length) i) g) []) rs.length
    ⟨0, 0, [], by omega, by omega, rfl, by simp, j0, g, hf⟩ ?_
  rintro t fr h ⟨i, s, out, hi, rfl, hall, hol, j, g, hf⟩
  have qh : AllP (oh h hv) := ⟨j.g1, rfl, trivial⟩
  refine Ev.of_flat r12_eq ?_
  by_cases hlt : i < rs.length
  case neg =>
    obtain rfl : i = rs.length := by omega
    rw [List.drop_length] at hall
    simp only [lAll] at hall
    subst hall
    refine EvS.px tab_ok mixed hf (by simp) (r12_end h h g off n rs.length 0 cp (0, 0) x tk 0 0 c 0 _ .nilslice) (AllP.mk_append qh ⟨by rw [decide_eq_false (by omega)], trivial⟩) fun fr2 g2 hf2 => ?_
    simp only [Out.next]
    refine RoundEnds.out ?_
    refine EvS.pxEnd tab_ok mixed hf2 (List.cons_ne_nil _ _) (post12 h g2 _) trivial fun fr3 g3 hf3 => ?_
    refine bodyQ_list hf3.1 (hf3.2 6 (by decide)) (j.gs.imp id fun ⟨a, b, d⟩ => ⟨d, ?_⟩) j.g0
    simp; omega
  refine EvS.px tab_ok mixed hf (by simp) (r12_go h h g off n i 0 cp (0, 0) x tk 0 0 c 0 _ .nilslice) (AllP.mk_append qh ⟨by rw [decide_eq_true (by omega)], trivial⟩) fun fr2 g2 hf2 => ?_
  obtain ⟨r, hr⟩ : ∃ r, rs[i]? = some r := ⟨rs[i], by simp [hlt]⟩
  have hrm := hx.m r (List.mem_of_getElem? hr)
  have hdrop : rs.drop i = r :: rs.drop (i + 1) := by
    rw [List.drop_eq_getElem_cons hlt]
    rw [List.getElem?_eq_getElem hlt] at hr
    cases hr; rfl
  rw [hdrop] at hall
  simp only [lAll] at hall
  refine Ev.block (Ev.of_flat m12_eq ?_)
  refine EvS.px tab_ok mixed hf2 (by simp) (m12_pre h g2 i c (slV s out.length)) trivial fun fr3 g3 hf3 => ?_
  refine EvS.loop (fun m fr h => ∃ p s out k, m + p = 9 ∧ lAll c tk (rs.drop (i + 1)) (i + 1) (lRow c tk i r m p (out, k)).1 = lAll c tk rs 0 [] ∧ out.length ≤ 9 * i + p ∧ k ≤ p ∧ J12 x hv tk h s out ∧
      ∃ g, FrIs 64 fr (ov [2, 3, 4, 7, 8, 9, 10] (lvB c (slV s out.length) i k p) g) []) 9
    ⟨0, s, out, 0, rfl, hall, by omega, Nat.le_refl _, j, g3, hf3⟩ ?_
  clear j qh hall hol hf hf2 hf3
  rintro m fr h ⟨p, s, out, k, hmp, hall, hol, hkp, j, g, hf⟩
  have qh : AllP (oh h hv) := ⟨j.g1, rfl, trivial⟩
  cases m with
  | zero =>
    obtain rfl : p = 9 := by omega
    refine Ev.px tab_ok mixed hf (in12_end h h g off n i 9 cp r x tk 0 0 c k _ .nilslice) ⟨rfl, trivial⟩ fun fr4 g4 hf4 => ?_
    refine RoundEnds.out ?_
    show EvS Try.prog none 64 (r12.drop 3) _ fr4 h
    refine EvS.pxEnd tab_ok mixed hf4 (List.cons_ne_nil _ _) (r12_inc h h g4 off n i 0 cp r x tk 0 0 c 0 _ .nilslice) ⟨w_i (by omega), trivial⟩ fun fr5 g5 hf5 => ?_
    exact ⟨rs.length - (i + 1), by omega, i + 1, s, out, by omega, rfl, hall, by omega, j, g5, hf5⟩
  | succ m =>
    have hp9 : p ≤ 8 := by omega
    have q0 : ∀ p8, decide (p < 8) = p8 → AllP (o12 h off n i p cp r x tk ((r.2.toNat / 2 ^ p : Nat) : Int) ((r.2.toNat / 2 ^ p % 2 : Nat) : Int) c p8 (decide (r.1 = c)) (bit r.2 p) (tk (8 * i + p))) := by
      intro p8 hp8
      refine AllP.mk_append ⟨by rw [decide_eq_true (by omega)], by rw [← hp8, Bool.eq_iff_iff.2 (by simp only [decide_eq_true_iff]; omega : decide ((p : Int) < 8) = true ↔ decide (p < 8) = true)], trivial⟩ ?_
      cases p8 with
      | false => exact trivial
      | true =>
        have hp : p < 8 := by simpa using hp8
        have hix : indexAddrI tab 22 hv (.int .i64 i) = some (.ptr 0 (off + i * 2)) := ix_sl t22d t39s (by omega)
        refine AllP.mk_append (AllP.mk_append qh ⟨hix, j.g0, hx.fc false i r hr, rfl, trivial⟩) ?_
        cases hce : decide (r.1 = c) with
        | false => exact trivial
        | true =>
          refine AllP.mk_append (AllP.mk_append qh ⟨hix, j.g0, hx.fm false i r hr, shr_ok hrm.1 hp, and_ok _, bit_ok _ _ rfl, trivial⟩) ?_
          cases hb : bit r.2 p with
          | false => exact trivial
          | true =>
            exact ⟨by rw [wrap64 (by omega) (by omega)]; rfl, by rw [wrap64 (by omega) (by omega)]; rfl, by rw [ix_arr t25d t4s (by omega)]; simp, j.g2, tkL_get (by omega), trivial⟩
    have q0 := q0 _ rfl
    have qinc : AllP [IV.int .i64 (IntKind.wrap .i64 ((p : Int) + 1)) = .int .i64 ((p + 1 : Nat) : Int)] := ⟨w_i (by omega), trivial⟩
    have hsel : selB (decide (p < 8)) (decide (r.1 = c)) (bit r.2 p) (tk (8 * i + p)) = selAt c tk i r p := rfl
    cases hs : selAt c tk i r p with
    | true =>
      have hrun := in12_go h h g off n i p cp r x tk ((r.2.toNat / 2 ^ p : Nat) : Int) ((r.2.toNat / 2 ^ p % 2 : Nat) : Int) c k (slV s out.length) .nilslice (decide (p < 8)) (decide (r.1 = c)) (bit r.2 p) (tk (8 * i + p)) true
      rw [hsel, hs] at hrun
      refine Ev.px tab_ok mixed hf hrun (AllP.mk_append (AllP.mk_append q0 ⟨w_i (by omega), trivial⟩) qinc) fun fr4 g4 hf4 => ?_
      refine ⟨m, by omega, p + 1, s, out, k + 1, by omega, ?_, by omega, by omega, j, g4, hf4⟩
      simpa [lRow, lstep, hs] using hall
    | false =>
      cases hk : decide (0 < k) with
      | false =>
        have hk0 : k = 0 := by simpa using hk
        have hrun := in12_go h h g off n i p cp r x tk ((r.2.toNat / 2 ^ p : Nat) : Int) ((r.2.toNat / 2 ^ p % 2 : Nat) : Int) c k (slV s out.length) .nilslice (decide (p < 8)) (decide (r.1 = c)) (bit r.2 p) (tk (8 * i + p)) false
        rw [hsel, hs] at hrun
        refine Ev.px tab_ok mixed hf hrun (AllP.mk_append (AllP.mk_append q0 (AllP.mk_append ⟨by rw [decide_eq_false (by omega)], trivial⟩ trivial)) qinc) fun fr4 g4 hf4 => ?_
        refine ⟨m, by omega, p + 1, s, out, 0, by omega, ?_, by omega, by omega, j, g4, hf4⟩
        simpa [lRow, lstep, hs, hk0] using hall
      | true =>
        have hk0 : 0 < k := by simpa using hk
        have hcs : (nints out).length = out.length * 1 := by rw [nints_length, Nat.mul_one]
        have g2lt := j.dom _ _ j.g2
        have hnn : (h.new (.cells [.int .i64 (k : Nat)] 3)).get h.next = some (.cells [.int .i64 (k : Nat)] 3, true) := by rw [H.get_new, if_pos rfl]
        have hs' : out.length = 0 ∨ (h.new (.cells [.int .i64 (k : Nat)] 3)).get s = some (.cells (nints out) 3, true) := by
          rcases j.gs with e | ⟨_, e2, e⟩
          · exact .inl e
          · exact .inr (by rw [H.get_new, if_neg (by omega)]; exact e)
        obtain ⟨h2, ha, hnx, hnew, hold⟩ := app_one t27d t3i (by decide) (by decide) (by omega) hcs hs' hnn (c := .hard 1) rfl rfl
        rw [H.next_new] at ha hnx hnew hold
        have hold' : ∀ i, i < 3 → h2.get i = h.get i := fun i e => by
          rw [hold i (by omega) (j.gs.imp id fun ⟨a, _, _⟩ => by omega), H.get_new, if_neg (by omega)]
        have hrun := in12_go h h2 g off n i p cp r x tk ((r.2.toNat / 2 ^ p : Nat) : Int) ((r.2.toNat / 2 ^ p % 2 : Nat) : Int) c k (slV s out.length) (slV (h.next + 1) (out.length + 1)) (decide (p < 8)) (decide (r.1 = c)) (bit r.2 p) (tk (8 * i + p)) true
        rw [hsel, hs] at hrun
        refine Ev.px tab_ok mixed hf hrun (AllP.mk_append (AllP.mk_append q0 (AllP.mk_append ⟨by rw [decide_eq_true (by omega)], trivial⟩ ⟨ha, trivial⟩)) qinc) fun fr4 g4 hf4 => ?_
        refine ⟨m, by omega, p + 1, h.next + 1, out ++ [k], 0, by omega, ?_, by simp; omega, by omega, ⟨?_, ?_, ?_, ?_, .inr ⟨by omega, ?_, ?_⟩⟩, g4, ?_⟩
        · simpa [lRow, lstep, hs, hk0] using hall
        · intro i' y hi'
          show i' < h2.next
          have hi' : h2.get i' = some y := hi'
          by_cases e : i' = h.next + 1
          · omega
          · by_cases en : i' = h.next
            · omega
            · rcases Nat.eq_zero_or_pos out.length with hz | hz
              · rw [hold i' e (.inl hz), H.get_new, if_neg (fun e => en e.symm)] at hi'
                have := j.dom _ _ hi'
                omega
              · by_cases es : i' = s
                · rcases j.gs with e | ⟨_, e2, _⟩ <;> omega
                · rw [hold i' e (.inr es), H.get_new, if_neg (fun e => en e.symm)] at hi'
                  have := j.dom _ _ hi'
                  omega
        · show h2.get 0 = _
          rw [hold' 0 (by decide)]; exact j.g0
        · show h2.get 1 = _
          rw [hold' 1 (by decide)]; exact j.g1
        · show h2.get 2 = _
          rw [hold' 2 (by decide)]; exact j.g2
        · show h.next + 1 < h2.next; omega
        · show h2.get (h.next + 1) = _
          rw [hnew]; simp [nints]
        · rw [List.length_append, List.length_singleton]; exact hf4

theorem lengths_cl {x : Bx} {off nn : Nat} {cp : Cap} {rs : List (Int × Int)} (hx : HallX x off nn cp rs) (hn : rs.length = nn) (c : Int) (tk : Nat → Bool) {h : H} {b : Nat} {wr : Bool} (hb : h.get b = some (x, wr)) :
    ClEq Try.prog (.func (.func 12) [] []) [.agg [.slice b off nn cp], .agg (tkL tk), .int .i64 c] h (slV h.next (lAll c tk rs 0 []).length) (newL h (lAll c tk rs 0 []).length (nints (lAll c tk rs 0 [])) 3) := by
  refine Cl.of_sp (first := []) (cap := []) enters12 ?_
  have hul : underLB 1 (tkL tk) = true := by
    unfold tkL
    generalize List.range 64 = l
    induction l with
    | nil => rfl
    | cons a l ih => simp only [List.map_cons, underLB, IV.underB, Bool.true_and, ih]
  have hrn : ∀ f, renL f (tkL tk) = tkL tk := fun f => by
    unfold tkL
    generalize List.range 64 = l
    induction l with
    | nil => rfl
    | cons a l ih => simp only [List.map_cons, renL, IV.ren, ih]
  have := Sp.list (bs := [x]) (by simp [hx.fl]) (by simp [underLB, IV.underB, hul]) (nints_flat _) (lengths_sp hx hn c tk) (H0 := h) (fun _ => b) (fun i o ho => by
    cases i with
    | zero => simp at ho; subst ho; exact ⟨wr, hb⟩
    | succ i => simp at ho) (fun i j hi hj _ => by simp at hi hj; omega)
  simp only [renL, IV.ren, hrn] at this
  exact this
end Go.Proofs.Ytjhgomacanffkaa
namespace Go.Proofs.Ytjhgomacanffkaa
open Go Sx Go.RowKit

theorem enters21 : Go.Proofs.Enters Try.prog 21 := Go.Proofs.enters_of Try.func21 (by kernel_rfl) rfl
theorem enters11 : Go.Proofs.Enters Try.prog 11 := Go.Proofs.enters_of Try.func11 (by kernel_rfl) rfl
def exC : List IV := [.int .i64 0, .int .u8 255, .int .i64 0, .int .u8 7]
theorem run21 : pfO Try.prog tab (fun _ _ => none) 50 21 [] 1 = some (.agg [.slice 1 0 2 (.hard 2)], some (.cells exC 39, true), []) := by kernel_rfl
theorem ex_cl (h : H) : ClEq Try.prog (.func (.func 21) [] []) [] h (.agg [.slice h.next 0 2 (.hard 2)]) (h.new (.cells exC 39)) := by
  refine Cl.of_sp (first := []) (cap := []) enters21 ?_
  exact Sp.anyO (v := .agg [.slice 0 0 2 (.hard 2)]) enters21 rfl rfl rfl rfl (Sp.pxO (v := .agg [.slice 0 0 2 (.hard 2)]) tab_ok mixed run21 trivial rfl rfl (by simp [IV.under, underL])) h

noncomputable def l11 : List Code := flat (bodyC Try.prog 11)
theorem l11_eq : flat (bodyC Try.prog 11) = l11.take 3 ++ (.block 0 (.loop (loopAt l11 3)) :: l11.drop 4) := by kernel_rfl

def oc11 (av : IV) (n q i off : Nat) (x : Bx × Bool) (a b : Int) (cl mk : Int) (cur cur2 v : IV) (h h2 hc : H) (lt l8 z : Bool) : Nat → Nat → Option It := fun f t => match f, t with
  | 11, 5 => some (.c (.agg [cur]) hc)
  | 11, 1003 => some (.t [.nilslice] 24 [cur])
  | 11, 8 => some (.g (.int .i64 (n : Nat)) h)
  | 11, 9 => some (.w (.bool lt))
  | 11, 12 => some (.w (.bool l8))
  | 11, 17 => some (.w (.bool z))
  | 11, 1018 => some (.t [cur] 24 [.nilslice])
  | 11, 20 => some (.l cur2 (.cells [cur2] 24, true))
  | 11, 23 => some (.o (.ptr q (off + i * 2)))
  | 11, 25 => some (.l (.int .u8 a) x)
  | 11, 26 => some (.w (.int .i64 a))
  | 11, 27 => some (.w (.int .i64 cl))
  | 11, 30 => some (.o (.ptr q (off + i * 2)))
  | 11, 32 => some (.l (.int .u8 b) x)
  | 11, 33 => some (.w (.int .u8 mk))
  | 11, 36 => some (.g v h2)
  | 11, 1037 => some (.t [cur2] 24 [v])
  | 11, 15 => some (.w (.int .i64 ((i + 1 : Nat) : Int)))
  | 11, 38 => some (.l (.agg [cur]) (.cells [cur] 24, true))
  | 11, 1002 => some (.t [.nilslice] 24 [cur])
  | _, _ => none

section
variable (h h2 hc : H) (g : Nat → IV) (av : IV) (n q i off q2 q3 : Nat) (x : Bx × Bool) (a b cl mk : Int) (cur cur2 v : IV)
def h11 (h : H) : H := h.new (.cells [.nilslice] 24)
def h11b (h : H) (cur : IV) : H := (((h11 h).new (.cells exC 39)).new (.cells [.nilslice] 24)).put (h.next + 2) (.cells [cur] 24)
theorem pre11 : psR Try.prog tab (oc11 av n q i off x a b cl mk cur cur2 v h h2 ((h11 h).new (.cells exC 39)) true true true) 50 11 none 39 (l11.take 3) (canon 39 (fun j => [av].getD j undefI) []) h [0, 2, 3, 4] =
  some (.normal, [av, .ptr h.next 0, .ptr (h.next + 2) 0, .int .i64 (0 : Nat)], h11b h cur, [], [ClEq Try.prog (.func (.func 21) [] []) [] (h11 h) (.agg [cur]) ((h11 h).new (.cells exC 39)),
    (((h11 h).new (.cells exC 39)).new (.cells [.nilslice] 24)).get (h.next + 2) = some (.cells [.nilslice] 24, true), stC 1 [.nilslice] 0 (.agg [cur]) = some [cur]]) := by kernel_rfl
def lv11 (av : IV) (q2 q3 i : Nat) : List IV := [av, .ptr q2 0, .ptr q3 0, .int .i64 (i : Nat)]
theorem r11_end (lt l8 : Bool) (he : (lt && l8) = false) : pxR Try.prog tab (oc11 av n q i off x a b cl mk cur cur2 v h h2 hc lt l8 true) 50 11 none 39 (loopAt l11 3) (canon 39 (ov [0, 2, 3, 4] (lv11 av q2 q3 i) g) []) h [2, 3] =
  some (.exit 0, [.ptr q2 0, .ptr q3 0], h, [], [builtinI tab .len [33] [av] h = some (.int .i64 (n : Nat), h), IV.bool (decide ((i : Int) < n)) = .bool lt] ++ (bif lt then [IV.bool (decide ((i : Int) < 8)) = .bool l8] else [])) := by
  cases lt <;> cases l8 <;> first | (cases he; done) | kernel_rfl
def h11c (h : H) (q3 : Nat) (z : Bool) : H := bif z then h.put q3 (.cells [.nilslice] 24) else h
theorem r11_go (z : Bool) : pxR Try.prog tab (oc11 av n q i off x a b cl mk cur cur2 v h h2 hc true true z) 50 11 none 39 (loopAt l11 3) (canon 39 (ov [0, 2, 3, 4] (lv11 av q2 q3 i) g) []) h [0, 2, 3, 4] =
  some (.normal, lv11 av q2 q3 (i + 1), h2.put q3 (.cells [v] 24), [], [builtinI tab .len [33] [av] h = some (.int .i64 (n : Nat), h), IV.bool (decide ((i : Int) < n)) = .bool true, IV.bool (decide ((i : Int) < 8)) = .bool true, IV.bool ((i : Int) == 0) = .bool z] ++
    (bif z then [h.get q3 = some (.cells [cur] 24, true), stC 1 [cur] 0 .nilslice = some [.nilslice]] else []) ++
    [(h11c h q3 z).get q3 = some (.cells [cur2] 24, true), ldX (.cells [cur2] 24, true) false 1 0 = some cur2, indexAddrI tab 33 av (.int .i64 i) = some (.ptr q (off + i * 2)), (h11c h q3 z).get q = some x, ldX x false 1 (off + i * 2) = some (.int .u8 a),
     IV.int .i64 (IntKind.wrap .i64 a) = .int .i64 a, IV.int .i64 (a.tmod 3) = .int .i64 cl, indexAddrI tab 33 av (.int .i64 i) = some (.ptr q (off + i * 2)), (h11c h q3 z).get q = some x, ldX x false 1 (off + i * 2 + 1) = some (.int .u8 b),
     IV.int .u8 (if b > 1 then b else 1) = .int .u8 mk, builtinI tab .append [22, 22] [cur2, .slice h.next 0 1 (.hard 1)] ((h11c h q3 z).new (.cells [.int .i64 cl, .int .u8 mk] 39)) = some (v, h2),
     h2.get q3 = some (.cells [cur2] 24, true), stC 1 [cur2] 0 v = some [v],
     ((h11c h q3 z).new (.cells [.int .i64 cl, .int .u8 mk] 39)).get q3 = some (.cells [cur2] 24, true), ldX (.cells [cur2] 24, true) false 1 0 = some cur2, cur2 = cur2, IV.int .i64 (IntKind.wrap .i64 ((i : Int) + 1)) = .int .i64 ((i + 1 : Nat) : Int)]) := by
  cases z <;> kernel_rfl
theorem post11 : psR Try.prog tab (oc11 av n q i off x a b cl mk cur cur2 v h h2 hc true true true) 50 11 none 39 (l11.drop 4) (canon 39 (ov [2, 3] [.ptr q2 0, .ptr q3 0] g) []) h [2] =
  some (.ret, [.ptr q2 0], h.put q2 (.cells [cur] 24), [], [h.get q3 = some (.cells [cur] 24, true), ldX (.cells [cur] 24, true) true 1 0 = some (.agg [cur]), h.get q2 = some (.cells [.nilslice] 24, true), stC 1 [.nilslice] 0 (.agg [cur]) = some [cur]]) := by kernel_rfl
end
end Go.Proofs.Ytjhgomacanffkaa
namespace Go.Proofs.Ytjhgomacanffkaa
open Go Sx Go.RowKit

def rowC (rs : List (Int × Int)) : List IV := rs.flatMap row
theorem rowC_length : ∀ rs : List (Int × Int), (rowC rs).length = rs.length * 2
  | [] => rfl
  | a :: l => by
    have := rowC_length l
    simp only [rowC] at this
    simp only [rowC, List.flatMap_cons, List.length_append, List.length_cons, List.length_nil, this]
    omega
theorem rowC_append (a b : List (Int × Int)) : rowC (a ++ b) = rowC a ++ rowC b := by simp [rowC]
theorem rowC_flat : ∀ l : List (Int × Int), flatL (rowC l) = true
  | [] => rfl
  | a :: l => by
    have := rowC_flat l
    simp only [rowC] at this
    simp only [rowC, List.flatMap_cons, List.cons_append, List.nil_append, flatL, IV.flat, Bool.true_and, this]
def mkRow (a : Int × Int) : Int × Int := (a.1.tmod 3, if a.2 > 1 then a.2 else 1)
def madeP (ps : List (Int × Int)) : List (Int × Int) := if ps = [] then [(0, 255), (0, 7)] else (ps.take 8).map mkRow
def madeC (ps : List (Int × Int)) : Cap := if ps = [] then .hard 2 else .soft 0
theorem t33d : (tab.get 33).map Ty.d = some (.slice 49) := by kernel_rfl
theorem t49s : (tab.get 49).map Ty.size = some 2 := by kernel_rfl

/-- A list of pairs of bytes that was handed in. -/
structure Pairs (h : H) (av : IV) (q off : Nat) (x : Bx × Bool) (ps : List (Int × Int)) : Prop where
  len : ∀ h', builtinI tab .len [33] [av] h' = some (.int .i64 (ps.length : Nat), h')
  ix : ∀ i, i < ps.length → indexAddrI tab 33 av (.int .i64 i) = some (.ptr q (off + i * 2))
  a : ∀ i r, ps[i]? = some r → ldX x false 1 (off + i * 2) = some (.int .u8 r.1)
  b : ∀ i r, ps[i]? = some r → ldX x false 1 (off + i * 2 + 1) = some (.int .u8 r.2)
  get : ps.length = 0 ∨ h.get q = some x
  m : ∀ r ∈ ps, (0 ≤ r.1 ∧ r.1 < 256) ∧ 0 ≤ r.2 ∧ r.2 < 256

theorem made_cl {h : H} {av : IV} {q off : Nat} {x : Bx × Bool} {ps : List (Int × Int)} (hp : Pairs h av q off x ps) (hdom : ∀ i y, h.get i = some y → i < h.next) :
    ClEq Try.prog (.func (.func 11) [] []) [av] h (.agg [.slice h.next 0 (madeP ps).length (madeC ps)]) (h.new (.cells (rowC (madeP ps)) 39)) := by
  refine Cl.of_sp (first := []) (cap := []) enters11 ?_
  refine Sp.keepOut (v := .agg [.slice 0 0 (madeP ps).length (madeC ps)]) (rowC_flat _) (by simp [IV.under, underL]) ?_
  refine Sp.of_ev tab_ok Try.func11 (c := bodyC Try.prog 11) (by kernel_rfl) (Nat.le_of_ble_eq_true rfl) ?_
  show Ev Try.prog none 39 (bodyC Try.prog 11) (BodyQ tab [.cell 2 24] _) _ _
  refine Ev.of_flat l11_eq ?_
  let c0 : IV := .slice (h.next + 1) 0 2 (.hard 2)
  have n1 : (h11 h).next = h.next + 1 := rfl
  have gN : (((h11 h).new (.cells exC 39)).new (.cells [.nilslice] 24)).get (h.next + 2) = some (.cells [.nilslice] 24, true) := by
    rw [H.get_new]; exact if_pos rfl
  refine EvS.px tab_ok mixed (FrIs.start 39 _) (by simp) (pre11 h h av ps.length q 0 off x 0 0 0 0 c0 .nilslice .nilslice) ⟨ex_cl (h11 h), gN, rfl, trivial⟩ fun fr g hf => ?_
  have kb : ∀ j, j < h.next → (h11b h c0).get j = h.get j := fun j hj => by
    show ((((h.new _).new _).new _).put _ _).get j = _
    rw [H.get_put, if_neg (by omega), H.get_new, H.next_new, H.next_new, if_neg (by omega), H.get_new, H.next_new, if_neg (by omega), H.get_new, if_neg (by omega)]
  have kb0 : (h11b h c0).get h.next = some (.cells [.nilslice] 24, true) := by
    show ((((h.new _).new _).new _).put _ _).get h.next = _
    rw [H.get_put, if_neg (by omega), H.get_new, H.next_new, H.next_new, if_neg (by omega), H.get_new, H.next_new, if_neg (by omega), H.get_new, if_pos rfl]
  have kb1 : (h11b h c0).get (h.next + 1) = some (.cells exC 39, true) := by
    show ((((h.new _).new _).new _).put _ _).get (h.next + 1) = _
    rw [H.get_put, if_neg (by omega), H.get_new, H.next_new, H.next_new, if_neg (by omega), H.get_new, H.next_new, if_pos rfl]
  have kb2 : (h11b h c0).get (h.next + 2) = some (.cells [c0] 24, true) := by
    show ((((h.new _).new _).new _).put _ _).get (h.next + 2) = _
    rw [H.get_put, if_pos rfl]
  have kd : ∀ i y, (h11b h c0).get i = some y → i < (h11b h c0).next := dom_put gN (dom_new (dom_new (dom_new hdom)))
  refine EvS.loop (fun t fr h' => ∃ i cur, i ≤ ps.length ∧ i ≤ 8 ∧ t = ps.length - i ∧ (∀ j y, h.get j = some y → h'.get j = some y) ∧ (∀ i y, h'.get i = some y → i < h'.next) ∧ h.next + 2 < h'.next ∧
      h'.get h.next = some (.cells [.nilslice] 24, true) ∧ h'.get (h.next + 2) = some (.cells [cur] 24, true) ∧
      ((i = 0 ∧ cur = c0 ∧ h'.get (h.next + 1) = some (.cells exC 39, true)) ∨ (0 < i ∧ ∃ s, h.next + 2 < s ∧ s < h'.next ∧ cur = .slice s 0 i (.soft 0) ∧ h'.get s = some (.cells (rowC ((ps.take i).map mkRow)) 39, true))) ∧
      ∃ g, FrIs 39 fr (ov [0, 2, 3, 4] (lv11 av h.next (h.next + 2) i) g) []) ps.length
    ⟨0, c0, by omega, by omega, by omega, fun j y hj => by rw [kb j (hdom _ _ hj)]; exact hj, kd, by show h.next + 2 < h.next + 3; omega, kb0, kb2, .inl ⟨rfl, rfl, kb1⟩, g, hf⟩ ?_
  rintro t fr h' ⟨i, cur, hi, hi8, rfl, hk, hd, hn, g0, g3, hcur, g, hf⟩
  by_cases hlt : i < ps.length ∧ i < 8
  case neg =>
    have hcond : ∀ lt l8, decide (i < ps.length) = lt → decide (i < 8) = l8 → AllP ([builtinI tab .len [33] [av] h' = some (.int .i64 (ps.length : Nat), h'), IV.bool (decide ((i : Int) < ps.length)) = .bool lt] ++ (bif lt then [IV.bool (decide ((i : Int) < 8)) = .bool l8] else [])) := by
      intro lt l8 h1 h2
      refine AllP.mk_append ⟨hp.len h', ?_, trivial⟩ ?_
      · rw [← h1, Bool.eq_iff_iff.2 (by simp only [decide_eq_true_iff]; omega : decide ((i : Int) < ps.length) = true ↔ decide (i < ps.length) = true)]
      · cases lt with
        | false => trivial
        | true =>
          refine ⟨?_, trivial⟩
          rw [← h2, Bool.eq_iff_iff.2 (by simp only [decide_eq_true_iff]; omega : decide ((i : Int) < 8) = true ↔ decide (i < 8) = true)]
    refine Ev.px tab_ok mixed hf (r11_end h' h' h' g av ps.length q i off h.next (h.next + 2) x 0 0 0 0 cur .nilslice .nilslice (decide (i < ps.length)) (decide (i < 8)) (by
      rw [Bool.and_eq_false_iff, decide_eq_false_iff_not, decide_eq_false_iff_not]; omega)) (hcond _ _ rfl rfl) fun fr2 g2 hf2 => ?_
    have hfin : ∃ s, cur = .slice s 0 (madeP ps).length (madeC ps) ∧ h.next < s ∧ h'.get s = some (.cells (rowC (madeP ps)) 39, true) := by
      rcases hcur with ⟨rfl, rfl, h1⟩ | ⟨hpos, s, hs1, hs2, rfl, h1⟩
      · have ha : ps = [] := List.eq_nil_of_length_eq_zero (by omega)
        subst ha
        exact ⟨h.next + 1, rfl, by omega, h1⟩
      · have ha : ps ≠ [] := fun e => by rw [e] at hi; simp at hi; omega
        have ht : ps.take 8 = ps.take i := by
          by_cases e8 : i = 8
          · rw [e8]
          · rw [List.take_of_length_le (by omega), List.take_of_length_le (by omega)]
        refine ⟨s, ?_, by omega, ?_⟩
        · unfold madeP madeC
          rw [if_neg ha, if_neg ha, ht, List.length_map, List.length_take, Nat.min_eq_left hi]
        · unfold madeP
          rw [if_neg ha, ht]; exact h1
    obtain ⟨s, rfl, hs, hg⟩ := hfin
    refine RoundEnds.out ?_
    refine EvS.pxEnd tab_ok mixed hf2 (List.cons_ne_nil _ _) (post11 h' h' h' g2 av 0 q 0 off h.next (h.next + 2) x 0 0 0 0  (.slice s 0 (madeP ps).length (madeC ps)) .nilslice .nilslice) ⟨g3, rfl, g0, rfl, trivial⟩ fun fr3 g3' hf3 => ?_
    have e2 : fr3.tm.tmp 2 = .ptr h.next 0 := hf3.2 2 (by decide)
    refine ⟨.inr rfl, h'.put h.next (.cells [.slice s 0 (madeP ps).length (madeC ps)] 24), [.agg [.slice s 0 (madeP ps).length (madeC ps)]], by rw [hf3.1]; rfl, ?_, s, rfl, ?_, by omega, fun j y hj => ?_⟩
    · have e2' : (h'.put h.next (.cells [.slice s 0 (madeP ps).length (madeC ps)] 24)).get h.next = some (.cells [.slice s 0 (madeP ps).length (madeC ps)] 24, true) := by rw [H.get_put, if_pos rfl]
      have h1 : (tab.get 24).map (fun y => (y.size, aggD y.d)) = some (1, true) := by kernel_rfl
      simp only [resI, e2]
      cases ht : tab.get 24 with
      | none => rw [ht] at h1; cases h1
      | some ty =>
        rw [ht] at h1
        simp only [Option.map_some, Option.some.injEq, Prod.mk.injEq] at h1
        simp only [h1.1, h1.2, loadI, e2']
        rfl
    · rw [H.get_put, if_neg (by omega)]; exact hg
    · have := hdom _ _ hj
      rw [H.get_put, if_neg (by omega)]; exact hk _ _ hj
  obtain ⟨hlt, hl8⟩ := hlt
  obtain ⟨r, hr⟩ : ∃ r, ps[i]? = some r := ⟨ps[i], by simp [hlt]⟩
  have hrm := hp.m r (List.mem_of_getElem? hr)
  have hgq : h.get q = some x := hp.get.elim (fun e => by omega) id
  have hqn := hdom _ _ hgq
  have htake : (ps.take (i + 1)).map mkRow = (ps.take i).map mkRow ++ [mkRow r] := by rw [List.take_add_one, hr]; simp
  -- the list ahead, ps slV
  obtain ⟨s, hcur2, hs, hsn⟩ : ∃ s, (i = 0 ∨ (cur = slV s i ∧ h.next + 2 < s)) ∧ (i = 0 ∨ (h11c h' (h.next + 2) (decide (i = 0))).get s = some (.cells (rowC ((ps.take i).map mkRow)) 39, true)) ∧ (i = 0 ∨ s < h'.next) := by
    rcases hcur with ⟨rfl, _, _⟩ | ⟨hpos, s, hs1, hs2, rfl, h1⟩
    · exact ⟨0, .inl rfl, .inl rfl, .inl rfl⟩
    · refine ⟨s, .inr ⟨(slV_pos hpos).symm, hs1⟩, .inr ?_, .inr hs2⟩
      rw [decide_eq_false (by omega)]
      exact h1
  let hc := h11c h' (h.next + 2) (decide (i = 0))
  have hcn : hc.next = h'.next := by
    show (h11c h' (h.next + 2) (decide (i = 0))).next = _
    unfold h11c
    cases decide (i = 0) <;> rfl
  have hck : ∀ j, j ≠ h.next + 2 → hc.get j = h'.get j := fun j hj => by
    show (h11c h' (h.next + 2) (decide (i = 0))).get j = _
    unfold h11c
    cases decide (i = 0) with
    | false => rfl
    | true => simp only [cond_true]; rw [H.get_put, if_neg (fun e => hj e.symm)]
  have hcd : ∀ i y, hc.get i = some y → i < hc.next := by
    show ∀ i' y, (h11c h' (h.next + 2) (decide (i = 0))).get i' = some y → i' < (h11c h' (h.next + 2) (decide (i = 0))).next
    unfold h11c
    cases decide (i = 0) with
    | false => exact hd
    | true => exact dom_put g3 hd
  have hc3 : hc.get (h.next + 2) = some (.cells [slV s i] 24, true) := by
    show (h11c h' (h.next + 2) (decide (i = 0))).get (h.next + 2) = _
    unfold h11c
    by_cases e : i = 0
    · rw [decide_eq_true e]
      simp only [cond_true]
      rw [H.get_put, if_pos rfl, e]
      rfl
    · rw [decide_eq_false e]
      simp only [cond_false]
      rw [g3]
      rcases hcur2 with e' | ⟨e', _⟩
      · exact absurd e' e
      · rw [e']
  have hrow : (rowC ((ps.take i).map mkRow)).length = i * 2 := by rw [rowC_length, List.length_map, List.length_take, Nat.min_eq_left hi]
  have hs' : i = 0 ∨ (hc.new (.cells (row (mkRow r)) 39)).get s = some (.cells (rowC ((ps.take i).map mkRow)) 39, true) := by
    rcases hs with e | e
    · exact .inl e
    · refine .inr ?_
      rw [H.get_new, if_neg]
      · exact e
      · rw [hcn]
        rcases hsn with e' | e'
        · intro e2
          have := hcd _ _ e
          omega
        · omega
  have hnn : (hc.new (.cells (row (mkRow r)) 39)).get hc.next = some (.cells (row (mkRow r)) 39, true) := by rw [H.get_new, if_pos rfl]
  obtain ⟨h2, ha, hnx, hnew, hold⟩ := app_one t22d t39i (by decide) (by decide) (len := i) (by omega) hrow hs' hnn (c := .hard 1) rfl rfl
  rw [H.next_new, hcn] at ha hnx hnew hold
  have si : i = 0 ∨ h.next + 2 ≠ s := hcur2.imp id fun ⟨_, e⟩ => by omega
  have hold3 : ∀ j, j < h'.next → (i = 0 ∨ j ≠ s) → h2.get j = hc.get j := fun j e e2 => by
    rw [hold j (by omega) e2, H.get_new, if_neg (by omega)]
  have sj : ∀ j, j ≤ h.next + 2 → i = 0 ∨ j ≠ s := fun j hj => hcur2.imp id fun ⟨_, e⟩ => by omega
  have h23 : h2.get (h.next + 2) = some (.cells [slV s i] 24, true) := by rw [hold3 _ hn si]; exact hc3
  have d2 : ∀ j y, h2.get j = some y → j < h2.next := by
    intro j y hj
    rw [hnx]
    by_cases e : j = h'.next + 1
    · omega
    · by_cases en : j = h'.next
      · omega
      · have hjc : i = 0 ∨ j ≠ s ∨ j = s := by omega
        by_cases es : i = 0 ∨ j ≠ s
        · rw [hold j e es, H.get_new, if_neg (by omega)] at hj
          have := hcd _ _ hj
          omega
        · have : j = s := by omega
          rcases hsn with e' | e' <;> omega
  have q1 : ∀ z, decide (i = 0) = z → AllP (bif z then [h'.get (h.next + 2) = some (.cells [cur] 24, true), stC 1 [cur] 0 .nilslice = some [.nilslice]] else []) := by
    intro z hz
    cases z with
    | false => trivial
    | true => exact ⟨g3, rfl, trivial⟩
  refine Ev.px tab_ok mixed hf (r11_go h' h2 h' g av ps.length q i off h.next (h.next + 2) x r.1 r.2 (mkRow r).1 (mkRow r).2 cur (slV s i) (slV (h'.next + 1) (i + 1)) (decide (i = 0))) (AllP.mk_append (AllP.mk_append ⟨hp.len h', by rw [decide_eq_true (by omega)], by rw [decide_eq_true (by omega)], ?_, trivial⟩ (q1 _ rfl))
    ⟨hc3, rfl, hp.ix i hlt, ?_, hp.a i r hr, ?_, rfl, hp.ix i hlt, ?_, hp.b i r hr, rfl, ?_, h23, st_slV _ _ _, ?_, rfl, rfl, w_i (by omega), trivial⟩) fun fr2 g2 hf2 => ?_
  · congr 1
    rw [Bool.eq_iff_iff, beq_iff_eq, decide_eq_true_iff]; omega
  · show hc.get q = _
    rw [hck q (by omega)]; exact hk _ _ hgq
  · rw [wrap64 (by omega) (by omega)]
  · show hc.get q = _
    rw [hck q (by omega)]; exact hk _ _ hgq
  · exact ha
  · rw [H.get_new, if_neg (by rw [show (h11c h' (h.next + 2) (decide (i = 0))).next = h'.next from hcn]; omega)]; exact hc3
  · refine ⟨ps.length - (i + 1), by omega, i + 1, slV (h'.next + 1) (i + 1), by omega, by omega, rfl, fun j y hj => ?_, ?_, ?_, ?_, ?_, .inr ⟨by omega, h'.next + 1, by omega, ?_, slV_succ _ _, ?_⟩, g2, hf2⟩
    · have := hdom _ _ hj
      rw [H.get_put, if_neg (by omega), hold3 j (by omega) (sj j (by omega)), hck j (by omega)]; exact hk _ _ hj
    · exact dom_put h23 d2
    · show h.next + 2 < h2.next; omega
    · rw [H.get_put, if_neg (by omega), hold3 _ (by omega) (sj _ (by omega)), hck _ (by omega)]; exact g0
    · rw [H.get_put, if_pos rfl]
    · show h'.next + 1 < h2.next; omega
    · rw [H.get_put, if_neg (by omega), hnew, htake, rowC_append]
      rfl
end Go.Proofs.Ytjhgomacanffkaa
namespace Go.Proofs.Ytjhgomacanffkaa
open Go Sx Go.RowKit

/-! ### The lengths' sum -/
def tot (st : List Nat × Nat) : Nat := st.1.sum + st.2
theorem lstep_tot (sel : Bool) (st : List Nat × Nat) : tot (lstep sel st) = tot st + (if sel = true then 1 else 0) := by
  unfold lstep tot
  cases sel with
  | true => simp; omega
  | false =>
    cases h : decide (0 < st.2) with
    | true => simp
    | false =>
      have : ¬ 0 < st.2 := by simpa using h
      simp; omega
theorem selAt_iff (c : Int) (tk : Nat → Bool) (i : Nat) (r : Int × Int) (p : Nat) : selAt c tk i r p = true ↔ p < 8 ∧ r.1 = c ∧ bit r.2 p = true ∧ tk (8 * i + p) = false := by
  unfold selAt selB
  simp
theorem lRow_tot (c : Int) (tk : Nat → Bool) (i : Nat) (r : Int × Int) : ∀ (m p : Nat) (st : List Nat × Nat), m + p = 8 →
    tot (lRow c tk i r (m + 1) p st) = tot st + ((rowS i r m p).filter fun a => decide (a.2 = c ∧ tk a.1 = false)).length ∧ (lRow c tk i r (m + 1) p st).2 = 0
  | 0, p, st, h => by
    have hs : selAt c tk i r p = false := by
      cases hh : selAt c tk i r p with
      | false => rfl
      | true => have := (selAt_iff c tk i r p).1 hh; omega
    simp only [lRow, rowS, List.filter_nil, List.length_nil, hs]
    refine ⟨by rw [lstep_tot]; simp, ?_⟩
    unfold lstep
    cases decide (0 < st.2) <;> rfl
  | m + 1, p, st, h => by
    obtain ⟨h1, h2⟩ := lRow_tot c tk i r m (p + 1) (lstep (selAt c tk i r p) st) (by omega)
    refine ⟨?_, h2⟩
    show tot (lRow c tk i r (m + 1) (p + 1) (lstep (selAt c tk i r p) st)) = _
    rw [h1, lstep_tot, rowS, List.filter_append, List.length_append, Nat.add_assoc]
    congr 1
    congr 1
    by_cases hb : bit r.2 p = true
    · rw [if_pos hb]
      by_cases hs : r.1 = c ∧ tk (8 * i + p) = false
      · rw [if_pos ((selAt_iff c tk i r p).2 ⟨by omega, hs.1, hb, hs.2⟩)]
        simp [hs]
      · rw [if_neg (fun e => by have := (selAt_iff c tk i r p).1 e; exact hs ⟨this.2.1, this.2.2.2⟩)]
        simp [hs]
    · rw [if_neg hb, if_neg (fun e => hb ((selAt_iff c tk i r p).1 e).2.2.1)]
      rfl
theorem lAll_sum (c : Int) (tk : Nat → Bool) : ∀ (rs : List (Int × Int)) (i : Nat) (out : List Nat), (lAll c tk rs i out).sum = out.sum + ((allS rs i).filter fun a => decide (a.2 = c ∧ tk a.1 = false)).length
  | [], i, out => by simp [lAll, allS]
  | r :: rs, i, out => by
    obtain ⟨h1, h2⟩ := lRow_tot c tk i r 8 0 (out, 0) rfl
    simp only [lAll, allS]
    rw [lAll_sum c tk rs (i + 1), List.filter_append, List.length_append]
    unfold tot at h1
    rw [h2] at h1
    simp only [Nat.add_zero] at h1
    rw [h1]; omega
theorem lens_sum (c : Int) (tk : Nat → Bool) (rs : List (Int × Int)) : (lAll c tk rs 0 []).sum = (free rs c tk).length := by
  rw [lAll_sum]
  unfold free
  simp

/-! ### made's rows -/
theorem rowC_agg (rs : List (Int × Int)) (wr : Bool) (i : Nat) (r : Int × Int) (h : rs[i]? = some r) : ldX (.cells (rowC rs) 39, wr) true 2 (0 + i * 2) = some (.agg (row r)) ∧
    ldX (.cells (rowC rs) 39, wr) false 1 (0 + i * 2) = some (.int .i64 r.1) ∧ ldX (.cells (rowC rs) 39, wr) false 1 (0 + i * 2 + 1) = some (.int .u8 r.2) := by
  have hlt := (List.getElem?_eq_some_iff.1 h).1
  have hsplit : rs = rs.take i ++ r :: rs.drop (i + 1) := by
    rw [List.getElem?_eq_getElem hlt] at h
    cases h
    simp
  have hl : (rowC (rs.take i)).length = i * 2 := by rw [rowC_length, List.length_take, Nat.min_eq_left (by omega)]
  have hc : rowC rs = rowC (rs.take i) ++ ([.int .i64 r.1, .int .u8 r.2] ++ rowC (rs.drop (i + 1))) := by
    conv => lhs; rw [hsplit]
    rw [rowC_append]; rfl
  refine ⟨?_, ?_, ?_⟩
  · show ldC true 2 (rowC rs) (0 + i * 2) = _
    unfold ldC
    rw [Nat.zero_add, show Nat.ble (i * 2 + 2) (rowC rs).length = true by rw [rowC_length]; exact Nat.ble_eq_true_of_le (by omega)]
    simp only [cond_true]
    congr 2
    rw [hc, List.drop_left' hl]
    rfl
  · show (rowC rs)[0 + i * 2]? = _
    rw [Nat.zero_add, hc, List.getElem?_append_right (by omega), hl, Nat.sub_self]
    rfl
  · show (rowC rs)[0 + i * 2 + 1]? = _
    rw [Nat.zero_add, hc, List.getElem?_append_right (by omega), hl, show i * 2 + 1 - i * 2 = 1 by omega]
    rfl

theorem madeP_length (ps : List (Int × Int)) : 1 ≤ (madeP ps).length ∧ (madeP ps).length ≤ 8 := by
  unfold madeP
  split
  · simp
  · next h =>
    have : 0 < ps.length := by
      cases ps with
      | nil => exact absurd rfl h
      | cons a l => simp
    rw [List.length_map, List.length_take]
    omega
theorem madeP_m {ps : List (Int × Int)} (hm : ∀ r ∈ ps, (0 ≤ r.1 ∧ r.1 < 256) ∧ 0 ≤ r.2 ∧ r.2 < 256) : ∀ r ∈ madeP ps, 0 ≤ r.2 ∧ r.2 < 256 := by
  intro r hr
  unfold madeP at hr
  split at hr
  · simp only [List.mem_cons, List.not_mem_nil, or_false] at hr
    rcases hr with rfl | rfl <;> simp
  · obtain ⟨a, ha, rfl⟩ := List.mem_map.1 hr
    have := hm a (List.mem_of_mem_take ha)
    simp only [mkRow]
    split <;> omega

theorem cut_hard {b n : Nat} (hn : n ≤ 8) (h : H) : sliceI tab 22 (.slice b 0 n (.hard n)) none (some (.int .i64 (n : Nat))) none h = some (.slice b 0 n (.hard n)) := by
  have h1 := t22d
  have h2 := t39s
  unfold sliceI
  cases ht : tab.get 22 with
  | none => rw [ht] at h1; cases h1
  | some ty =>
    cases he : tab.get 39 with
    | none => rw [he] at h2; cases h2
    | some et =>
      rw [ht] at h1; rw [he] at h2
      simp only [Option.map_some, Option.some.injEq] at h1 h2
      simp only [h1, he, boundI]
      rw [if_pos (by omega)]
      simp [Nat.ble_eq_true_of_le]
theorem cut_soft {b n : Nat} {cs : List IV} {wr : Bool} (h1n : 1 ≤ n) {h : H} (hg : h.get b = some (.cells cs 39, wr)) (hl : cs.length = n * 2) : sliceI tab 22 (.slice b 0 n (.soft 0)) none (some (.int .i64 (n : Nat))) none h = some (.slice b 0 n (.soft 0)) := by
  have h1 := t22d
  have h2 := t39s
  unfold sliceI
  cases ht : tab.get 22 with
  | none => rw [ht] at h1; cases h1
  | some ty =>
    cases he : tab.get 39 with
    | none => rw [he] at h2; cases h2
    | some et =>
      rw [ht] at h1; rw [he] at h2
      simp only [Option.map_some, Option.some.injEq] at h1 h2
      simp only [h1, he, boundI, hg]
      rw [if_pos (by omega)]
      simp only [Int.toNat_natCast]
      rw [h2, hl, Nat.ble_eq_true_of_le (Nat.zero_le n), Nat.ble_eq_true_of_le (by decide : 1 ≤ 2), Nat.ble_eq_true_of_le (by omega : (0 + n) * 2 ≤ n * 2), Nat.ble_eq_true_of_le (by omega : (0 + 0 + 1) * 2 ≤ n * 2)]
      simp

theorem made_hall {ps : List (Int × Int)} (hm : ∀ r ∈ ps, (0 ≤ r.1 ∧ r.1 < 256) ∧ 0 ≤ r.2 ∧ r.2 < 256) : HallX (.cells (rowC (madeP ps)) 39) 0 (madeP ps).length (madeC ps) (madeP ps) := by
  have hl := madeP_length ps
  refine ⟨rowC_flat _, by omega, fun wr i r h => (rowC_agg _ wr i r h).1, fun wr i r h => (rowC_agg _ wr i r h).2.1, fun wr i r h => (rowC_agg _ wr i r h).2.2, madeP_m hm, ?_⟩
  unfold madeC
  split
  · next h =>
    subst h
    exact ⟨.hard 2, fun b h wr _ => cut_hard (n := 2) (by decide) h⟩
  · next h =>
    exact ⟨.soft 0, fun b h wr hg => cut_soft hl.1 hg (rowC_length _)⟩
end Go.Proofs.Ytjhgomacanffkaa
