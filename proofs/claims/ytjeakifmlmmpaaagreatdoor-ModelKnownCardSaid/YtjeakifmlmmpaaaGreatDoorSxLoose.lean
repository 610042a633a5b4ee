/- A drawn region with two allocations in open order, run. -/
import Derived.Test.YtjeakifmlmmpaaaGreatDoorSxDrawS
import Derived.Test.YtjeakifmlmmpaaaGreatDoorSxNMach
namespace Sx
open Go Go.RowKit
set_option linter.unusedSimpArgs false

section
variable {P : Program} {T : Tr Ty} (hT : TabOK P T) {rd : Option Nat} {ntmps : Nat} {Q : Out → Fr → H → Prop} {fr : Fr} {h : H}
include hT in
theorem Ev.region_textS {id : Nat} {ops : Array Oper} (hm : P.follows .mixedOrders = true) {ic ia : Nat} (h1 : orderOKS T ops (befL ops.toList []) ic ia = true) (h2 : edgesOK ops = true) (h3 : dstOK ops ntmps = true) {tr fr' h'}
    (r : TRun P T ops ops.toList fr h tr fr' h') (hL : Loose P T ops (befL ops.toList []) (vAt tr) fr h (hAt h tr (ic + 1)) (hAt h tr (ia + 1)) ic ia)
    (h4 : DynOK T ops fr h tr) (hq : Q .normal fr' h') : Ev P rd ntmps (.region id ops true) Q fr h := by
  have hlen := r.length
  rw [Array.length_toList] at hlen
  have F := TRun.facts (vals := vAt tr) (hh := hAt h tr) (fr0 := fr) r 0 (fun j => by simp) (by simp) rfl rfl (fun j x hx => by simp [vAt, hAt, hx])
  obtain ⟨F1, F2, F3⟩ := F
  have hsame : ∀ j o, ops[j]? = some o → effOp T o.op = false → hAt h tr (j + 1) = hAt h tr j := by
    intro j o ho he
    rcases F1 j o (Nat.zero_le _) ho with ⟨_, _, hh⟩ | ⟨_, hh⟩ | ⟨_, c, fo, fv, vs, hop, hc, _⟩
    · exact hh
    · exact iop_eff he hh
    · obtain ⟨callee, args, argTypes⟩ := c
      simp only at hc
      subst hc
      rw [hop] at he
      simp [effOp] at he
  have hrank : ∀ j i, i ≤ j → j ≤ ops.size → rank T ops i = rank T ops j → hAt h tr i = hAt h tr j := by
    intro j
    induction j with
    | zero => intro i hi _ _; have : i = 0 := by omega
              rw [this]
    | succ j ih =>
      intro i hi hj hr
      by_cases e : i = j + 1
      · rw [e]
      · have m1 := rank_le T ops (show i ≤ j by omega)
        have m2 : rank T ops j ≤ rank T ops (j + 1) := rank_le T ops (Nat.le_succ j)
        have hrj : rank T ops j = rank T ops (j + 1) := by omega
        rw [ih i (by omega) (by omega) (by omega)]
        obtain ⟨o, ho⟩ : ∃ o, ops[j]? = some o := ⟨_, Array.getElem?_eq_getElem (show j < ops.size by omega)⟩
        refine (hsame j o ho ?_).symm
        cases he : effOp T o.op with
        | false => rfl
        | true =>
          have : effB T ops j = true := by simp [effB, ho, he]
          simp only [rank, this, if_true] at hrj
          omega
  -- the heap of each rank
  let hs : Nat → H := hsAt T ops h tr
  have hhs : ∀ j, j ≤ ops.size → hs (rank T ops j) = hAt h tr j := by
    intro j hj
    simp only [hs, hsAt]
    cases hf : (List.range (ops.size + 1)).find? fun i => Nat.beq (rank T ops i) (rank T ops j) with
    | none =>
      have := List.find?_eq_none.1 hf j (List.mem_range.2 (by omega))
      simp at this
    | some i =>
      have h5 := List.find?_some hf
      have h6 := List.mem_range.1 (List.mem_of_find?_eq_some hf)
      have h7 : rank T ops i = rank T ops j := Nat.eq_of_beq_eq_true h5
      simp only [Option.getD_some]
      rcases Nat.le_total i j with h8 | h8
      · exact hrank j i h8 hj h7
      · exact (hrank i j h8 (by omega) h7.symm).symm
  obtain ⟨oc, oa, ta, va, o1, hoc, hoa, hlt, hrc, hra, hec, hea, hrest⟩ := hL
  have hicl := (Array.getElem?_eq_some_iff.1 hoc).1
  have hial := (Array.getElem?_eq_some_iff.1 hoa).1
  have k1 : hs 1 = hAt h tr (ic + 1) := by
    have := hhs (ic + 1) hicl
    have hb : effB T ops ic = true := by simp [effB, hoc, hec]
    simpa [rank, hb, hrc] using this
  have k2 : hs 2 = hAt h tr (ia + 1) := by
    have := hhs (ia + 1) hial
    have hb : effB T ops ia = true := by simp [effB, hoa, hea]
    simpa [rank, hb, hra] using this
  refine Ev.region_drawS hT hm (vAt tr) hs ?_ (ic := ic) (ia := ia) h1 h2 h3 (by rw [k1, k2]; exact ⟨oc, oa, ta, va, o1, hoc, hoa, hlt, hrc, hra, hec, hea, hrest⟩) ?_ ?_
  · have := hhs 0 (Nat.zero_le _); simpa [rank, hAt] using this
  · intro j o ho
    have hjlt := (Array.getElem?_eq_some_iff.1 ho).1
    have e0 := hhs j (by omega)
    have e1 : effOp T o.op = true → hs (rank T ops j + 1) = hAt h tr (j + 1) := fun he => by
      have := hhs (j + 1) hjlt
      have hb : effB T ops j = true := by simp [effB, ho, he]
      simpa [rank, hb] using this
    unfold OpFact
    rcases F1 j o (Nat.zero_le _) ho with ⟨hw, hv, hh⟩ | ⟨hw, hh⟩ | ⟨hw, c, fo, fv, vs, hop, hc, hfv, hvs, hcl⟩
    · rw [if_pos hw]
      exact ⟨hv, fun he => by rw [e1 he, e0, hh]⟩
    · rw [if_neg (by rw [hw]; simp)]
      by_cases he : effOp T o.op = true
      · rw [if_pos he, e0, e1 he]
        exact .inl hh
      · rw [if_neg he]
        intro k hk hwin
        by_cases hfree : freeOp T o.op = true
        · exact (iop_free hfree hh).2 _
        · by_cases hk' : k = rank T ops j
          · rw [hk', e0]
            have := hsame j o ho (by simpa using he)
            rw [this] at hh
            exact hh
          · exact h4 j o k ho hw (by simpa using he) (by simpa using hfree) hk hk' hwin
    · rw [if_neg (by rw [hw]; simp)]
      have he : effOp T o.op = true := by
        obtain ⟨callee, args, argTypes⟩ := c
        simp only at hc
        subst hc
        rw [hop]; rfl
      rw [if_pos he, e0, e1 he]
      exact .inr ⟨c, fo, fv, vs, hop, hc, hfv, hvs, hcl⟩
  · rw [← F2, hhs _ (Nat.le_refl _), ← F3]; exact hq
end

theorem flat_cells {v : IV} (h : v.flat = true) : flatL v.cells = true := by
  cases v <;> simp_all [IV.cells, IV.flat, flatL]

/-- What an operation without operands lays. -/
def laidB (T : Tr Ty) : Op → Option Bx
  | .makeMap t none => match T.get t with
    | some _ => some (.map [] 0)
    | none => none
  | .alloc e => match T.get e with
    | some ty => bif Nat.beq ty.zv.cells.length ty.size then some (.cells ty.zv.cells e) else none
    | none => none
  | _ => none

theorem laidB_spec {P : Program} {T : Tr Ty} (hT : TabOK P T) {op : Op} {o1 : Bx} (hl : laidB T op = some o1) : ∃ mk : Nat → IV, (∀ tm h, iop T tm h op = some (mk h.next, h.new o1)) ∧ op.operands = #[] ∧ effOp T op = true ∧
    (∀ (E E' : Env) (n m : Nat), E'.ρ m = E.ρ n → (mk m).den E' = (mk n).den E) ∧ (∀ n, (mk n).under (n + 1)) ∧
    ∀ (E E' : Env) (n m : Nat) (ob : Option Obj), E'.ρ m = E.ρ n → E'.κ m = E.κ n → ORel P E (n + 1) n o1 ob → ORel P E' (m + 1) m o1 ob := by
  unfold laidB at hl
  split at hl
  · rename_i t
    split at hl
    case h_2 => cases hl
    rename_i ty ht
    cases hl
    refine ⟨.map, fun tm h => by simp [iop, evOpt, makeMapI, ht], rfl, rfl, fun E E' n m he => by simp [IV.den, he], fun n => by simp [IV.under], fun E E' n m ob h1 h2 h3 => ⟨by simpa using h3.1, by simp⟩⟩
  · rename_i e
    split at hl
    case h_2 => cases hl
    rename_i ty ht
    cases hc : Nat.beq ty.zv.cells.length ty.size with
    | false => rw [hc] at hl; cases hl
    | true =>
      rw [hc] at hl
      cases hl
      have hfl : flatL ty.zv.cells = true := flat_cells (hT _ _ ht).flat
      refine ⟨fun n => .ptr n 0, fun tm h => by simp [iop, allocI, ht, hc], rfl, rfl, fun E E' n m he => by simp [IV.den, he], fun n => by simp [IV.under], fun E E' n m ob h1 h2 h3 => ?_⟩
      obtain ⟨extra, lo, hi, q1, q2, q3, q4⟩ := h3
      have hd : denL E' ty.zv.cells = denL E ty.zv.cells := den_flat hfl
      exact ⟨extra, lo, hi, by rw [hd]; exact q1, by rw [hd]; exact q2, underL_of_flat _ _ hfl, by rw [hd, h2]; exact q4⟩
  · cases hl

/-! ### Run -/
noncomputable def lput (d : Option Tmp) (v : IV) (fr : Fr) : Fr := fr.put d v

/-- As 'kopsT', but that call ic is made where nothing that was there can be written. -/
noncomputable def kopsL (r : Rn) (T : Tr Ty) (ops : Array Oper) (ic : Nat) (l : List Oper) : Nat → Fr → H → Option (List (IV × H) × Fr × H) :=
  List.rec (motive := fun _ => Nat → Fr → H → Option (List (IV × H) × Fr × H)) (fun _ fr h => some ([], fr, h)) (fun o _ ih j fr h => match wantedI ops fr.tm o with
    | false => withO (ih (Nat.succ j) (fr.put o.dst undefI) h) fun x => some ((undefI, h) :: x.1, x.2)
    | true => match Nat.beq j ic with
      | true => match o.op with
        | .call c => match c.callee with
          | .value fo => withO (evo fr.tm fo) fun fv => withO (evos fr.tm c.args.toList) fun vs => match fv.underB h.next && underLB h.next vs with
            | true => withO (r.cl fv vs h.frz) fun y => withO (ih (Nat.succ j) (fr.put o.dst y.1) (h.addN y.2)) fun x => some ((y.1, h.addN y.2) :: x.1, x.2)
            | false => none
          | _ => none
        | _ => none
      | false => withO (kop o.op r T fr.tm h fun v h1 => some (v, h1)) fun y => withO (ih (Nat.succ j) (fr.put o.dst y.1) y.2) fun x => some ((y.1, y.2) :: x.1, x.2)) l

/-- What the call at ic was. -/
def CallAt (P : Program) (ops : Array Oper) (ic : Nat) (fr : Fr) (h : H) (v : IV) (h1 : H) : Prop :=
  ∃ oc c fo fv vs, ops[ic]? = some oc ∧ oc.op = .call c ∧ c.callee = .value fo ∧ evo fr.tm fo = some fv ∧ evos fr.tm c.args.toList = some vs ∧ fv.under h.next ∧ underL h.next vs ∧ FCl P fv vs h v h1

theorem kopsL_sound {P : Program} {T : Tr Ty} {r : Rn} (hr : SoundR P r) {ops : Array Oper} {ic : Nat} : ∀ {l : List Oper} {j : Nat} {fr : Fr} {h : H} {tr : List (IV × H)} {fr' : Fr} {h' : H}, (∀ i, l[i]? = ops[j + i]?) → kopsL r T ops ic l j fr h = some (tr, fr', h') →
    TRun P T ops l fr h tr fr' h' ∧ (j ≤ ic → ic < j + l.length → (∃ oc, ops[ic]? = some oc ∧ oc.guard = none) → ∀ (vals : Nat → IV) (hh : Nat → H) (fr0 : Fr), fr = frAt ops vals fr0 j → h = hh j → (∀ i x, tr[i]? = some x → vals (j + i) = x.1 ∧ hh (j + i + 1) = x.2) →
      CallAt P ops ic (frAt ops vals fr0 ic) (hh ic) (vals ic) (hh (ic + 1))) := by
  intro l
  induction l with
  | nil => intro j fr h tr fr' h' _ e; cases e; exact ⟨.nil, fun h1 h2 => by simp at h2; omega⟩
  | cons o l ih =>
    intro j fr h tr fr' h' hl e
    have ho : ops[j]? = some o := by simpa using (hl 0).symm
    have hl' : ∀ i, l[i]? = ops[j + 1 + i]? := fun i => by have := hl (i + 1); rw [show j + 1 + i = j + (i + 1) by omega]; simpa using this
    have hd : dstAt ops j = o.dst := by simp [dstAt, ho]
    have e1 : (match wantedI ops fr.tm o with
      | false => withO (kopsL r T ops ic l (Nat.succ j) (fr.put o.dst undefI) h) fun x => some ((undefI, h) :: x.1, x.2)
      | true => match Nat.beq j ic with
        | true => match o.op with
          | .call c => match c.callee with
            | .value fo => withO (evo fr.tm fo) fun fv => withO (evos fr.tm c.args.toList) fun vs => match fv.underB h.next && underLB h.next vs with
              | true => withO (r.cl fv vs h.frz) fun y => withO (kopsL r T ops ic l (Nat.succ j) (fr.put o.dst y.1) (h.addN y.2)) fun x => some ((y.1, h.addN y.2) :: x.1, x.2)
              | false => none
            | _ => none
          | _ => none
        | false => withO (kop o.op r T fr.tm h fun v h1 => some (v, h1)) fun y => withO (kopsL r T ops ic l (Nat.succ j) (fr.put o.dst y.1) y.2) fun x => some ((y.1, y.2) :: x.1, x.2)) = some (tr, fr', h') := e
    -- one step, then the rest
    have rest : ∀ {v : IV} {h1 : H} {tr1 : List (IV × H)}, kopsL r T ops ic l (Nat.succ j) (fr.put o.dst v) h1 = some (tr1, fr', h') → tr = (v, h1) :: tr1 → j ≠ ic →
        j ≤ ic → ic < j + (o :: l).length → (∃ oc, ops[ic]? = some oc ∧ oc.guard = none) → ∀ (vals : Nat → IV) (hh : Nat → H) (fr0 : Fr), fr = frAt ops vals fr0 j → h = hh j → (∀ i x, tr[i]? = some x → vals (j + i) = x.1 ∧ hh (j + i + 1) = x.2) →
        CallAt P ops ic (frAt ops vals fr0 ic) (hh ic) (vals ic) (hh (ic + 1)) := by
      intro v h1 tr1 hk htr hne hle hlt hg vals hh fr0 hfr hhh ht
      subst htr
      have t0 := ht 0 _ rfl
      simp only [Nat.add_zero] at t0
      refine (ih hl' hk).2 (by omega) (by simp at hlt; omega) hg vals hh fr0 (by simp only [frAt]; rw [hd, ← hfr, t0.1]) t0.2.symm (fun i x hx => ?_)
      have := ht (i + 1) x (by simpa using hx)
      rw [show j.succ + i = j + (i + 1) by omega]
      exact this
    split at e1
    · rename_i hw
      obtain ⟨⟨tr1, x2⟩, hk, e1⟩ := withO_some e1
      cases e1
      refine ⟨.skip hw (ih hl' hk).1, fun hle hlt hg => ?_⟩
      by_cases hji : j = ic
      · exfalso
        subst hji
        obtain ⟨oc, h1, h2⟩ := hg
        rw [ho] at h1
        cases h1
        simp [wantedI, h2] at hw
      · exact rest hk rfl hji hle hlt hg
    · rename_i hw
      split at e1
      · rename_i hji
        have hji := Nat.eq_of_beq_eq_true hji
        subst hji
        split at e1
        case h_2 => cases e1
        rename_i c hop
        split at e1
        case h_2 => cases e1
        rename_i fo hc
        obtain ⟨fv, hfv, e1⟩ := withO_some e1
        obtain ⟨vs, hvs, e1⟩ := withO_some e1
        split at e1
        case h_2 => cases e1
        rename_i hu
        simp only [Bool.and_eq_true] at hu
        obtain ⟨⟨v, hA⟩, hcl, e1⟩ := withO_some e1
        obtain ⟨⟨tr1, x2⟩, hk, e1⟩ := withO_some e1
        cases e1
        have hF : FCl P fv vs h v (h.addN hA) := ⟨hA, hr.cl _ _ _ _ _ hcl, rfl⟩
        refine ⟨.call hw hop hc hfv hvs hF.cl (ih hl' hk).1, fun hle hlt hg vals hh fr0 hfr hhh ht => ?_⟩
        have t0 := ht 0 _ rfl
        simp only [Nat.add_zero] at t0
        rw [← hfr, ← hhh, t0.1, t0.2]
        exact ⟨o, c, fo, fv, vs, ho, hop, hc, hfv, hvs, IV.underB_ok hu.1, underLB_ok hu.2, hF⟩
      · rename_i hji
        obtain ⟨⟨v, h1⟩, hkp, e1⟩ := withO_some e1
        obtain ⟨⟨tr1, x2⟩, hk, e1⟩ := withO_some e1
        cases e1
        have hne : j ≠ ic := fun e => by subst e; simp at hji
        refine ⟨?_, rest hk rfl hne⟩
        rcases kopI hkp with hi | ⟨c, fo, fv, vs, hop, hc, hfv, hvs, hcl⟩
        · exact .op hw hi (ih hl' hk).1
        · exact .call hw hop hc hfv hvs (hr.cl _ _ _ _ _ hcl) (ih hl' hk).1

/-- The first two effects. -/
def loosePair (T : Tr Ty) (ops : Array Oper) : Option (Nat × Nat) := match (List.range ops.size).filter (effB T ops) with
  | ic :: ia :: _ => some (ic, ia)
  | _ => none

noncomputable def looseOK (T : Tr Ty) (ops : Array Oper) (n : Nat) (fr : Fr) (h : H) (tr : List (IV × H)) (ic ia : Nat) : Bool :=
  match ops[ic]?, ops[ia]? with
  | some oc, some oa => match oa.dst, laidB T oa.op with
    | some ta, some o1 => orderOKS T ops (befL ops.toList []) ic ia && edgesOK ops && dstOK ops n && Nat.blt ic ia && Nat.beq (rank T ops ic) 0 && Nat.beq (rank T ops ia) 1 && effOp T oc.op && oc.guard.isNone && oa.guard.isNone &&
        !(namesOf ops oc).contains ta && dynB T ops fr h tr &&
        (List.range ops.size).all fun j => match ops[j]? with
          | some o => Nat.beq j ia || Nat.beq j ic || ordB (befL ops.toList []) ic j ||
            (!(namesOf ops o).contains ta && (vAt tr j).underB h.next && (!(wantedI ops (frAt ops (vAt tr) fr j).tm o) || match iop T (frAt ops (vAt tr) fr j).tm (h.new o1) o.op with
              | some (v, _) => v.same (vAt tr j) && !effOp T o.op
              | none => false))
          | none => true
    | _, _ => false
  | _, _ => false

noncomputable def nLoose (r : Rn) (T : Tr Ty) (ops : Array Oper) (n : Nat) (fr : Fr) (h : H) : Option NL := match loosePair T ops with
  | some (ic, ia) => match kopsL r T ops ic ops.toList 0 fr h with
    | some (tr, fr1, h1) => match looseOK T ops n fr h tr ic ia with
      | true => some [(.normal, fr1, h1)]
      | false => none
    | none => none
  | none => none

theorem nLoose_sound {P : Program} {T : Tr Ty} (hT : TabOK P T) (hm : P.follows .mixedOrders = true) {r : Rn} (hr : SoundR P r) {ops : Array Oper} {n : Nat} {rd : Option Nat} {id : Nat} {fr : Fr} {h : H} {L : NL} (e : nLoose r T ops n fr h = some L) :
    Ev P rd n (.region id ops true) (InL L) fr h := by
  unfold nLoose at e
  split at e
  case h_2 => cases e
  rename_i ic ia hp
  split at e
  case h_2 => cases e
  rename_i tr fr1 h1 hk
  split at e
  case h_2 => cases e
  rename_i hok
  cases e
  obtain ⟨hrun, hcall⟩ := kopsL_sound hr (fun i => by simp) hk
  unfold looseOK at hok
  split at hok
  case h_2 => cases hok
  rename_i oc oa hoc hoa
  split at hok
  case h_2 => cases hok
  rename_i ta o1 hda hlaid
  simp only [Bool.and_eq_true] at hok
  obtain ⟨⟨⟨⟨⟨⟨⟨⟨⟨⟨⟨c1, c2⟩, c3⟩, c4⟩, c5⟩, c6⟩, c7⟩, c8⟩, c9⟩, c10⟩, c11⟩, c12⟩ := hok
  have hicl := (Array.getElem?_eq_some_iff.1 hoc).1
  have hial := (Array.getElem?_eq_some_iff.1 hoa).1
  have hgc : oc.guard = none := by simpa using c8
  have hga : oa.guard = none := by simpa using c9
  have hlt : ic < ia := by simpa [Nat.blt_eq] using c4
  have hlen := hrun.length
  rw [Array.length_toList] at hlen
  have ht : ∀ j x, tr[j]? = some x → vAt tr (0 + j) = x.1 ∧ hAt h tr (0 + j + 1) = x.2 := fun j x hx => by simp [vAt, hAt, hx]
  have F := (TRun.facts (vals := vAt tr) (hh := hAt h tr) (fr0 := fr) hrun 0 (fun j => by simp) (by simp) rfl rfl ht).1
  obtain ⟨oc', c, fo, fv, vs, q1, q2, q3, q4, q5, q6, q7, q8⟩ := hcall (Nat.zero_le _) (by simpa using hicl) ⟨oc, hoc, hgc⟩ (vAt tr) (hAt h tr) fr rfl rfl ht
  rw [hoc] at q1
  cases q1
  obtain ⟨mk, m1, m2, m3, m4, m5, m6⟩ := laidB_spec hT hlaid
  have hrc : rank T ops ic = 0 := Nat.eq_of_beq_eq_true c5
  have hra : rank T ops ia = 1 := Nat.eq_of_beq_eq_true c6
  -- the heap ahead of ic is the first one
  have hsame : ∀ j o, ops[j]? = some o → effOp T o.op = false → hAt h tr (j + 1) = hAt h tr j := by
    intro j o ho he
    rcases F j o (Nat.zero_le _) ho with ⟨_, _, hh⟩ | ⟨_, hh⟩ | ⟨_, c, fo, fv, vs, hop, hc, _⟩
    · exact hh
    · exact iop_eff he hh
    · obtain ⟨callee, args, argTypes⟩ := c
      simp only at hc
      subst hc
      rw [hop] at he
      simp [effOp] at he
  have hrank : ∀ j i, i ≤ j → j ≤ ops.size → rank T ops i = rank T ops j → hAt h tr i = hAt h tr j := by
    intro j
    induction j with
    | zero => intro i hi _ _; have : i = 0 := by omega
              rw [this]
    | succ j ih =>
      intro i hi hj hr
      by_cases e : i = j + 1
      · rw [e]
      · have n1 := rank_le T ops (show i ≤ j by omega)
        have n2 : rank T ops j ≤ rank T ops (j + 1) := rank_le T ops (Nat.le_succ j)
        have hrj : rank T ops j = rank T ops (j + 1) := by omega
        rw [ih i (by omega) (by omega) (by omega)]
        obtain ⟨o, ho⟩ : ∃ o, ops[j]? = some o := ⟨_, Array.getElem?_eq_getElem (show j < ops.size by omega)⟩
        refine (hsame j o ho ?_).symm
        cases he : effOp T o.op with
        | false => rfl
        | true =>
          have : effB T ops j = true := by simp [effB, ho, he]
          simp only [rank, this, if_true] at hrj
          omega
  have hh0 : hAt h tr ic = h := (hrank ic 0 (Nat.zero_le _) (by omega) (by rw [hrc]; rfl)).symm
  rw [hh0] at q6 q7 q8
  have hbc : effB T ops ic = true := by simp [effB, hoc, c7]
  have hha : hAt h tr ia = hAt h tr (ic + 1) := (hrank ia (ic + 1) hlt (by omega) (by simp only [rank, hbc, if_true]; omega)).symm
  have hfa : vAt tr ia = mk (hAt h tr (ic + 1)).next ∧ hAt h tr (ia + 1) = (hAt h tr (ic + 1)).new o1 := by
    rcases F ia oa (Nat.zero_le _) hoa with ⟨hw, _, _⟩ | ⟨_, hh⟩ | ⟨_, c, fo, fv, vs, hop, hc, _⟩
    · simp [wantedI, hga] at hw
    · rw [m1, hha] at hh
      simp only [Option.some.injEq, Prod.mk.injEq] at hh
      exact ⟨hh.1.symm, hh.2.symm⟩
    · exfalso
      rw [hop] at hlaid
      simp [laidB] at hlaid
  refine Ev.region_textS hT hm c1 c2 c3 hrun ⟨oc, oa, ta, mk h.next, o1, hoc, hoa, hlt, hrc, hra, c7, m3, hgc, hga, hda, m2, m1 _ _, hfa.2, fun E E' ob h1 h2 h3 => m6 E E' _ _ ob h1 h2 h3,
    fun E E' he => by rw [hfa.1]; exact m4 E E' _ _ he, by rw [hfa.1]; exact m5 _, ⟨c, fo, fv, vs, q2, q3, q4, q5, q6, q7, q8⟩, by simpa using c10, fun j o ho hja hjc hno => ?_⟩ (dynB_ok c11) (.one (by simp))
  have h1 := List.all_eq_true.1 c12 j (List.mem_range.2 (Array.getElem?_eq_some_iff.1 ho).1)
  simp only [ho] at h1
  have b1 : Nat.beq j ia = false := by rw [beqE]; exact decide_eq_false hja
  have b2 : Nat.beq j ic = false := by rw [beqE]; exact decide_eq_false hjc
  simp only [b1, b2, hno, Bool.false_or, Bool.and_eq_true, Bool.not_eq_true'] at h1
  refine ⟨by simpa using h1.1.1, IV.underB_ok h1.1.2, fun hw => ?_⟩
  have h2 := h1.2
  rw [hw] at h2
  simp only [Bool.not_true, Bool.false_or] at h2
  split at h2
  · next v hx hi =>
    simp only [Bool.and_eq_true, Bool.not_eq_true'] at h2
    rw [hi, IV.same_eq _ _ h2.1, iop_eff h2.2 hi]
  · cases h2

/-! ### A drawn region whose calls have one way out each -/
noncomputable def kopsX (r : Rn) (X : Xn) (T : Tr Ty) (ops : Array Oper) (l : List Oper) : Fr → H → Option (List (IV × H) × Option Value × Fr × H) :=
  List.rec (motive := fun _ => Fr → H → Option (List (IV × H) × Option Value × Fr × H)) (fun fr h => some ([], none, fr, h)) (fun o _ ih fr h => match wantedI ops fr.tm o with
    | false => withO (ih (fr.put o.dst undefI) h) fun x => some ((undefI, h) :: x.1, x.2)
    | true => match kop o.op r T fr.tm h fun v h1 => some (v, h1) with
      | some (v, h1) => withO (ih (fr.put o.dst v) h1) fun x => some ((v, h1) :: x.1, x.2)
      | none => match o.op with
        | .call c => match c.callee with
          | .value fo => withO (evo fr.tm fo) fun fv => withO (evos fr.tm c.args.toList) fun vs => withO (X.cl fv vs h) fun L => match L with
            | [(.ret v, h1)] => withO (ih (fr.put o.dst v) h1) fun x => some ((v, h1) :: x.1, x.2)
            | [(.pan u, h1)] => some ([], some u, fr, h1)
            | _ => none
          | _ => none
        | _ => none) l

def XEnd (P : Program) (T : Tr Ty) (ops : Array Oper) (l : List Oper) (fr : Fr) (h : H) (tr : List (IV × H)) (pu : Option Value) (fr1 : Fr) (h1 : H) : Prop :=
  match pu with
  | none => TRun P T ops l fr h tr fr1 h1
  | some u => ∃ l1 o l2 h2 c fo fv vs, l = l1 ++ o :: l2 ∧ tr.length = l1.length ∧ Pu.TRun P T (fun _ => false) ops l1 fr h tr fr1 h2 ∧ wantedI ops fr1.tm o = true ∧ o.op = .call c ∧ c.callee = .value fo ∧
      evo fr1.tm fo = some fv ∧ evos fr1.tm c.args.toList = some vs ∧ ClX P fv vs h2 (fun _ _ => False) (fun x h' => x = u ∧ h' = h1)

theorem kopsX_sound {P : Program} {T : Tr Ty} {r : Rn} (hr : SoundR P r) {X : Xn} (hX : SoundX P X) {ops : Array Oper} : ∀ {l : List Oper} {fr : Fr} {h : H} {tr : List (IV × H)} {pu : Option Value} {fr1 : Fr} {h1 : H},
    kopsX r X T ops l fr h = some (tr, pu, fr1, h1) → XEnd P T ops l fr h tr pu fr1 h1 := by
  intro l
  induction l with
  | nil => intro fr h tr pu fr1 h1 e; cases e; exact .nil
  | cons o l ih =>
    intro fr h tr pu fr1 h1 e
    have e1 : (match wantedI ops fr.tm o with
      | false => withO (kopsX r X T ops l (fr.put o.dst undefI) h) fun x => some ((undefI, h) :: x.1, x.2)
      | true => match kop o.op r T fr.tm h fun v h1 => some (v, h1) with
        | some (v, h1) => withO (kopsX r X T ops l (fr.put o.dst v) h1) fun x => some ((v, h1) :: x.1, x.2)
        | none => match o.op with
          | .call c => match c.callee with
            | .value fo => withO (evo fr.tm fo) fun fv => withO (evos fr.tm c.args.toList) fun vs => withO (X.cl fv vs h) fun L => match L with
              | [(.ret v, h1)] => withO (kopsX r X T ops l (fr.put o.dst v) h1) fun x => some ((v, h1) :: x.1, x.2)
              | [(.pan u, h1)] => some ([], some u, fr, h1)
              | _ => none
            | _ => none
          | _ => none) = some (tr, pu, fr1, h1) := e
    have step : ∀ {v : IV} {hx : H} {tr1 : List (IV × H)} , (∀ {tr fr' h'}, TRun P T ops l (fr.put o.dst v) hx tr fr' h' → TRun P T ops (o :: l) fr h ((v, hx) :: tr) fr' h') →
        (∀ {l' tr fr' h'}, Pu.TRun P T (fun _ => false) ops l' (fr.put o.dst v) hx tr fr' h' → Pu.TRun P T (fun _ => false) ops (o :: l') fr h ((v, hx) :: tr) fr' h') →
        XEnd P T ops l (fr.put o.dst v) hx tr1 pu fr1 h1 → XEnd P T ops (o :: l) fr h ((v, hx) :: tr1) pu fr1 h1 := by
      intro v hx tr1 s1 s2 hxe
      cases pu with
      | none => exact s1 hxe
      | some u =>
        obtain ⟨l1, o', l2, h2, c, fo, fv, vs, q1, q2, q3, q4⟩ := hxe
        exact ⟨o :: l1, o', l2, h2, c, fo, fv, vs, by rw [q1]; rfl, by simp [q2], s2 q3, q4⟩
    split at e1
    · rename_i hw
      obtain ⟨⟨tr1, x2⟩, hk, e1⟩ := withO_some e1
      cases e1
      exact step (.skip hw) (.skip hw) (ih hk)
    · rename_i hw
      split at e1
      · rename_i v hx hkp
        obtain ⟨⟨tr1, x2⟩, hk, e1⟩ := withO_some e1
        cases e1
        rcases kopI hkp with hi | ⟨c, fo, fv, vs, hop, hc, hfv, hvs, hcl⟩
        · exact step (.op hw hi) (.op hw hi) (ih hk)
        · exact step (.call hw hop hc hfv hvs (hr.cl _ _ _ _ _ hcl)) (.call hw rfl hop hc hfv hvs (hr.cl _ _ _ _ _ hcl)) (ih hk)
      · split at e1
        case h_2 => cases e1
        rename_i c hop
        split at e1
        case h_2 => cases e1
        rename_i fo hc
        obtain ⟨fv, hfv, e1⟩ := withO_some e1
        obtain ⟨vs, hvs, e1⟩ := withO_some e1
        obtain ⟨L, hcl, e1⟩ := withO_some e1
        have hx := hX.cl _ _ _ _ hcl
        split at e1
        · rename_i v hx1
          obtain ⟨⟨tr1, x2⟩, hk, e1⟩ := withO_some e1
          cases e1
          have hC : Cl P fv vs h fun v' h'' => v' = v ∧ h'' = hx1 := Cl.mono (Cl.clx hx (fun x h' hm => by simp at hm)) fun v' h' hm => by simpa using hm
          exact step (.call hw hop hc hfv hvs hC) (.call hw rfl hop hc hfv hvs hC) (ih hk)
        · rename_i u hx1
          cases e1
          exact ⟨[], o, l, h, c, fo, fv, vs, rfl, rfl, .nil, hw, hop, hc, hfv, hvs, hx.mono (fun v h' hm => by simp at hm) (fun x h' hm => by simpa using hm)⟩
        · cases e1

/-- The reads whose place is open, up to a call that panics. -/
noncomputable def dynX (T : Tr Ty) (ops : Array Oper) (fr : Fr) (h : H) (tr : List (IV × H)) (kp : Nat) : Bool :=
  (List.range kp).all fun j => match ops[j]? with
    | some o => !(wantedI ops (frAt ops (vAt tr) fr j).tm o) || effOp T o.op || freeOp T o.op || (List.range (Pu.rank T (fun _ => false) ops kp + 1)).all fun k => Nat.beq k (Pu.rank T (fun _ => false) ops j) || !Pu.winB T (fun _ => false) ops (befL ops.toList []) j k ||
      (match iop T (frAt ops (vAt tr) fr j).tm (Pu.hsAt T (fun _ => false) ops h tr k) o.op with
      | some (v, _) => v.same (vAt tr j)
      | none => false)
    | none => true

theorem dynX_ok {T : Tr Ty} {ops : Array Oper} {fr : Fr} {h : H} {tr : List (IV × H)} {kp : Nat} (hd : dynX T ops fr h tr kp = true) : Pu.DynX T (fun _ => false) ops fr h tr kp := by
  intro j o k hj ho hw he hp hf hk hk' hwin
  have he : effOp T o.op = false := by simpa [Pu.effP] using he
  have h1 := List.all_eq_true.1 hd j (List.mem_range.2 hj)
  simp only [ho] at h1
  simp only [Bool.or_eq_true, hw, he, hf, false_or, Bool.false_eq_true, Bool.not_true] at h1
  have h2 := List.all_eq_true.1 h1 k (List.mem_range.2 (by omega))
  have hb : Nat.beq k (Pu.rank T (fun _ => false) ops j) = false := by rw [beqE]; exact decide_eq_false hk'
  simp only [hwin, hb, Bool.not_true, Bool.false_or] at h2
  split at h2
  · next v h' hi =>
    rw [← IV.same_eq _ _ h2]
    rw [hi, iop_eff he hi]
  · cases h2

noncomputable def nDrawX (r : Rn) (X : Xn) (T : Tr Ty) (ops : Array Oper) (n : Nat) (fr : Fr) (h : H) : Option NL := match kopsX r X T ops ops.toList fr h with
  | some (tr, none, fr1, h1) => match drawS T ops n && dynB T ops fr h tr with
    | true => some [(.normal, fr1, h1)]
    | false => none
  | some (tr, some u, fr1, h1) => match Pu.drawS T (fun _ => false) ops n && dynX T ops fr h tr tr.length && Pu.postX ops (befL ops.toList []) tr.length && noDst ops with
    | true => some [(.panic u, fr1, h1)]
    | false => none
  | none => none

theorem TRun_keeps {P : Program} {T : Tr Ty} {pc : Oper → Bool} {ops : Array Oper} {l : List Oper} {fr : Fr} {h : H} {tr : List (IV × H)} {fr' : Fr} {h' : H} (r : Pu.TRun P T pc ops l fr h tr fr' h') :
    fr'.marks = fr.marks ∧ ∀ t, (∀ o ∈ l, o.dst ≠ some t) → fr'.tm.tmp t = fr.tm.tmp t := by
  have put1 : ∀ (fr : Fr) (d : Option Tmp) (v : IV), (fr.put d v).marks = fr.marks ∧ ∀ t, d ≠ some t → (fr.put d v).tm.tmp t = fr.tm.tmp t := by
    intro fr d v
    unfold Fr.put
    cases d with
    | none => exact ⟨rfl, fun _ _ => rfl⟩
    | some d => exact ⟨rfl, fun t ht => by simp only [tmp_set]; rw [if_neg (fun e => ht (by rw [e]))]⟩
  have one : ∀ {o : Oper} {l : List Oper} {fr fr' : Fr} {v : IV}, (fr'.marks = (fr.put o.dst v).marks ∧ ∀ t, (∀ o ∈ l, o.dst ≠ some t) → fr'.tm.tmp t = (fr.put o.dst v).tm.tmp t) →
      fr'.marks = fr.marks ∧ ∀ t, (∀ o' ∈ o :: l, o'.dst ≠ some t) → fr'.tm.tmp t = fr.tm.tmp t := by
    intro o l fr fr' v ⟨h1, h2⟩
    obtain ⟨p1, p2⟩ := put1 fr o.dst v
    exact ⟨h1.trans p1, fun t ht => (h2 t fun o' ho' => ht o' (by simp [ho'])).trans (p2 t (ht o (by simp)))⟩
  induction r with
  | nil => exact ⟨rfl, fun _ _ => rfl⟩
  | skip _ _ ih => exact one ih
  | op _ _ _ ih => exact one ih
  | call _ _ _ _ _ _ _ _ ih => exact one ih
  | pure _ _ _ _ _ _ _ _ ih => exact one ih

theorem nDrawX_sound {P : Program} {T : Tr Ty} (hT : TabOK P T) (hm : P.follows .mixedOrders = true) {r : Rn} (hr : SoundR P r) {X : Xn} (hX : SoundX P X) {ops : Array Oper} {n : Nat} {rd : Option Nat} {id : Nat} {fr : Fr} {h : H} {L : NL} (e : nDrawX r X T ops n fr h = some L) :
    Ev P rd n (.region id ops true) (InL L) fr h := by
  unfold nDrawX at e
  split at e
  · rename_i tr fr1 h1 hk
    split at e
    case h_2 => cases e
    rename_i hc
    cases e
    simp only [Bool.and_eq_true] at hc
    exact Ev.region_textD hT hm (by simpa using hc.1) (kopsX_sound hr hX hk) (fun _ => dynB_ok hc.2) (.one (by simp))
  · rename_i tr u fr1 h1 hk
    split at e
    case h_2 => cases e
    rename_i hc
    cases e
    simp only [Bool.and_eq_true] at hc
    obtain ⟨l1, o, l2, h2, c, fo, fv, vs, q1, q2, q3, q4, q5, q6, q7, q8, q9⟩ := kopsX_sound hr hX hk
    have ho : ops[tr.length]? = some o := by
      rw [← Array.getElem?_toList, q1, q2]; simp
    have htake : ops.toList.take tr.length = l1 := by rw [q1, q2]; simp
    obtain ⟨k1, k2⟩ := TRun_keeps q3
    have hno : ∀ oj ∈ ops.toList, oj.dst ≠ some kT := fun oj hoj hd => by
      have := List.all_eq_true.1 hc.2 oj hoj
      rw [hd] at this
      simp at this
    refine Pu.Ev.region_textX (v := u) (hp := h1) hT hm (fun o h => by cases h) hc.1.1.1 (by rw [htake]; exact q3) (dynX_ok hc.1.1.2) hc.1.2 ho q4 ?_ q5 q6 q7 q8 q9 fun fr2 hf2 hf3 => ?_
    · obtain ⟨callee, args, argTypes⟩ := c
      simp only at q6
      subst q6
      simp [Pu.effP, q5, effOp]
    · refine ⟨_, List.mem_singleton.2 rfl, rfl, rfl, by rw [hf2, k1], .inr ⟨⟨_, rfl⟩, ?_⟩⟩
      rw [k2 kT fun oj hoj => hno oj (by rw [q1]; simp [hoj]), hf3 kT fun j hj => ?_]
      unfold dstAt at hj
      cases hoj : ops[j]? with
      | none => rw [hoj] at hj; cases hj
      | some oj =>
        rw [hoj] at hj
        exact hno oj (Array.mem_toList_iff.2 (Array.mem_of_getElem? hoj)) (by simpa using hj)
  · cases e

/-! ### The machine with many ways out, and with this -/
noncomputable def nhardL (c : Code) : NC := match c with
  | .region id ops b => fun r X T rd n fr h => match b with
    | true => match drawS T ops n with
      | true => nDrawX r X T ops n fr h
      | false => nLoose r T ops n fr h
    | false => nhard (.region id ops false) r X T rd n fr h
  | c => nhard c

noncomputable def ncodeL (r : Rn) (X : Xn) (T : Tr Ty) (c : Code) (rd : Option Nat) (n : Nat) (fr : Fr) (h : H) : Option NL := match r.code rd n c fr h with
  | some x => some [x]
  | none => nhardL c r X T rd n fr h

noncomputable def nmachL (P : Program) (T : Tr Ty) (r : Rn) (n : Nat) : Xn :=
  Nat.rec (motive := fun _ => Xn) ⟨fun _ _ _ _ _ => none, fun _ _ _ => none⟩ (fun _ X => ⟨fun rd n c fr h => ncodeL r X T c rd n fr h, fun fv args h => ncl P T X fv args h⟩) n

section
variable {P : Program} {T : Tr Ty} (hT : TabOK P T) {r : Rn} (hr : SoundR P r) {X : Xn} (hX : SoundX P X) (hm : P.follows .mixedOrders = true)
include hT hr hX hm in
theorem nhardL_sound {c : Code} {rd : Option Nat} {n : Nat} {fr : Fr} {h : H} {L : NL} (e : nhardL c r X T rd n fr h = some L) : Ev P rd n c (InL L) fr h := by
  cases c with
  | region id ops b =>
    cases b with
    | true =>
      have e1 : (match drawS T ops n with
        | true => nDrawX r X T ops n fr h
        | false => nLoose r T ops n fr h) = some L := e
      split at e1
      · exact nDrawX_sound hT hm hr hX e1
      · exact nLoose_sound hT hm hr e1
    | false => exact nhard_sound hT hr hX hm e
  | _ => exact nhard_sound hT hr hX hm e

include hT hr hX hm in
theorem ncodeL_sound {c : Code} {rd : Option Nat} {n : Nat} {fr : Fr} {h : H} {L : NL} (e : ncodeL r X T c rd n fr h = some L) : Ev P rd n c (InL L) fr h := by
  unfold ncodeL at e
  split at e
  · rename_i x hx
    obtain ⟨o, fr1, h1⟩ := x
    cases e
    refine Ev.mono (hr.code _ _ _ _ _ _ _ _ hx) ?_
    rintro o2 f2 h2 ⟨rfl, rfl, rfl⟩
    exact .one (by simp)
  · exact nhardL_sound hT hr hX hm e
end

theorem nmachL_sound {P : Program} {T : Tr Ty} (hT : TabOK P T) (hm : P.follows .mixedOrders = true) {r : Rn} (hr : SoundR P r) : ∀ n, SoundX P (nmachL P T r n) := by
  intro n
  induction n with
  | zero => exact ⟨fun _ _ _ _ _ _ e => (nomatch e), fun _ _ _ _ _ _ e => (nomatch e), fun _ _ _ _ e => (nomatch e)⟩
  | succ n ih =>
    refine ⟨fun rd k c fr h l e => ncodeL_sound hT hr ih hm e, fun rd k c fr h l e => ?_, fun fv args h l e => ncl_sound hT ih e⟩
    have e1 : ncodeL r (nmachL P T r n) T (.loop c) rd k fr h = some l := e
    unfold ncodeL at e1
    split at e1
    · rename_i x hx
      obtain ⟨o, fr1, h1⟩ := x
      cases e1
      refine (hr.loop _ _ _ _ _ _ _ _ hx).mono ?_
      rintro o2 f2 h2 ⟨rfl, rfl, rfl⟩
      exact .one (by simp)
    · exact nLoop_sound (T := T) (r := r) ih e1
end Sx
