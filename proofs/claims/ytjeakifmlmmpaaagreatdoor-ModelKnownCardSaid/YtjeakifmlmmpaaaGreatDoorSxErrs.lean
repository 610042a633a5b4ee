/- errors.As at a fault, and errors.Is of it, as answers to calls; and a closed law that comes to them. -/
import Derived.Test.YtjeakifmlmmpaaaGreatDoorSxMemo
namespace Sx
open Go Go.RowKit
set_option linter.unusedSimpArgs false

/-- What holds of a world holds of what came of it by new blocks alone. -/
theorem Rel.grow {P : Program} {w0 w w1 : World} {E : Env} {h : H} (hr : Rel P w0 E h w) (hb : Below w.heap.size w w1) : Rel P w0 E h w1 :=
  ⟨hr.below.trans (hb.mono hr.below.size), hr.dom, keeps_old hr hb (Ext.refl _ _) (Nat.le_refl _), hr.wr, hr.inj⟩

/-- errors.As(e, t): e's own type is what t points to. -/
def AsC (P : Program) (f tE tPE g rt ng te : Nat) : Prop := ∀ (e t : Addr) (old : Value) (w : World), w.cell? ⟨g, 0, none⟩ = some (.iface rt (.agg #[.pointer (some ⟨ng, te, none⟩)])) →
  w.cell? t = some old → w.frozen? t = false →
  Calls P f #[.iface tE (.pointer (some e)), .iface tPE (.pointer (some t))] w fun ev w' => ev = .returned (.bool true) ∧ ∃ w1, Below w.heap.size w w1 ∧ w' = w1.setCell t (.pointer (some e))
/-- errors.Is(e, c): e is a fault whose code is c. -/
def IsC (P : Program) (f tE tN : Nat) : Prop := ∀ (pb po : Nat) (c : Int) (w : World), w.cell? ⟨pb, po, none⟩ = some (.int .i64 c) →
  Calls P f #[.iface tE (.pointer (some ⟨pb, po, none⟩)), .iface tN (.int .i64 c)] w fun e w' => e = .returned (.bool true) ∧ w' = w

noncomputable def asS (fAs tE tPE g rt ng te : Nat) : Short := fun f args h => match Nat.beq f fAs with
  | true => match args with
    | [.iface a (.ptr b o), .iface c (.ptr t 0)] => match Nat.beq a tE && Nat.beq c tPE with
      | true => match kget h.t 0 with
        | some (.glob g' rt' ng' te', _) => match Nat.beq g' g && Nat.beq rt' rt && Nat.beq ng' ng && Nat.beq te' te with
          | true => match kget h.t t with
            | some (.cells (_ :: cs) e, true) => ksetT h.t t (some (.cells (.ptr b o :: cs) e, true)) fun tr => some (.bool true, ⟨tr, h.next⟩)
            | _ => none
          | false => none
        | _ => none
      | false => none
    | _ => none
  | false => none
noncomputable def isS (fIs tE tN : Nat) : Short := fun f args h => match Nat.beq f fIs with
  | true => match args with
    | [.iface a (.ptr b o), .iface d (.int .i64 c)] => match Nat.beq a tE && Nat.beq d tN with
      | true => match kget h.t b with
        | some (.cells cs _, _) => match knth cs o with
          | some (.int .i64 c') => match keq c' c with
            | true => some (.bool true, h)
            | false => none
          | _ => none
        | _ => none
      | false => none
    | _ => none
  | false => none
noncomputable def orS (a b : Short) : Short := fun f args h => match a f args h with
  | some x => some x
  | none => b f args h

theorem orS_sound {P : Program} {a b : Short} (ha : SoundS P a ∧ BodyS P a) (hb : SoundS P b ∧ BodyS P b) : SoundS P (orS a b) ∧ BodyS P (orS a b) := by
  refine ⟨fun f args h v h' e => ?_, fun f args h x e => ?_⟩
  · unfold orS at e
    split at e
    · next x hx => cases e; exact ha.1 _ _ _ _ _ hx
    · exact hb.1 _ _ _ _ _ e
  · unfold orS at e
    split at e
    · next x hx => exact ha.2 _ _ _ _ hx
    · exact hb.2 _ _ _ _ e

theorem asS_sound {P : Program} {fAs tE tPE g rt ng te : Nat} (hc : AsC P fAs tE tPE g rt ng te) (hen : Go.Proofs.Enters P fAs) : SoundS P (asS fAs tE tPE g rt ng te) ∧ BodyS P (asS fAs tE tPE g rt ng te) := by
  refine ⟨fun f args h v h' e => ?_, fun f args h x e => ?_⟩
  · unfold asS at e
    cases hf : Nat.beq f fAs with
    | false => rw [hf] at e; cases e
    | true =>
      rw [hf] at e
      have := beqT hf
      subst this
      simp only [kget_eq, ksetT_eq] at e
      split at e
      case h_2 => cases e
      rename_i a b o c t
      cases ht : (Nat.beq a tE && Nat.beq c tPE) with
      | false => rw [ht] at e; cases e
      | true =>
        rw [ht] at e
        simp only [Bool.and_eq_true] at ht
        have := beqT ht.1
        have := beqT ht.2
        subst_vars
        simp only at e
        split at e
        case h_2 => cases e
        rename_i g' rt' ng' te' wr hg
        cases hq : (Nat.beq g' g && Nat.beq rt' rt && Nat.beq ng' ng && Nat.beq te' te) with
        | false => rw [hq] at e; cases e
        | true =>
          rw [hq] at e
          simp only [Bool.and_eq_true] at hq
          have := beqT hq.1.1.1
          have := beqT hq.1.1.2
          have := beqT hq.1.2
          have := beqT hq.2
          subst_vars
          simp only at e
          split at e
          case h_2 => cases e
          rename_i old cs el hgt
          cases e
          intro w0 E w hr hu
          obtain ⟨⟨hρ, gc, ge, gfr, hob, hgc⟩, _⟩ := hr.obj 0 _ wr (show h.get 0 = _ from hg)
          obtain ⟨⟨extra, lo, hi, ho, hfz, hun, hka⟩, hlt⟩ := hr.obj t _ true (show h.get t = _ from hgt)
          have hglob : w.cell? ⟨g', 0, none⟩ = some (.iface rt' (.agg #[.pointer (some ⟨ng', te', none⟩)])) := by
            rw [hρ] at hob
            simp [World.cell?, hob, hgc]
          have hold : w.cell? ⟨E.ρ t, 0, none⟩ = some (old.den E) := by
            simp [World.cell?, ho, denL]
          have hfr : w.frozen? ⟨E.ρ t, 0, none⟩ = false := by
            have := hfz 0 (by simp [denL])
            simp only [World.frozen?, ho]
            simpa using this
          have hcall := hc ⟨E.ρ b, o, none⟩ ⟨E.ρ t, 0, none⟩ _ w hglob hold hfr
          have hargs : (denL E [.iface a (.ptr b o), .iface c (.ptr t 0)]).toArray = #[.iface a (.pointer (some ⟨E.ρ b, o, none⟩)), .iface c (.pointer (some ⟨E.ρ t, 0, none⟩))] := by simp [denL, IV.den]
          rw [hargs]
          refine (callsIn_wide.2 hcall).mono ?_
          rintro ev w' ⟨rfl, w1, hb1, rfl⟩
          have hr1 := hr.grow hb1
          have ho1 : w1.heap[E.ρ t]? = some (.cells (denL E (old :: cs) ++ extra).toArray el (lo, hi)) := by rw [hb1.block _ hlt]; exact ho
          have hset : w1.setCell ⟨E.ρ t, 0, none⟩ (.pointer (some ⟨E.ρ b, o, none⟩)) = World.putObj w1 (E.ρ t) (.cells (denL E (.ptr b o :: cs) ++ extra).toArray el (lo, hi)) := by
            unfold World.setCell World.putObj
            congr 1
            apply Array.ext_getElem?
            intro i
            rw [Array.getElem?_modify, Array.getElem?_setIfInBounds]
            by_cases hi2 : E.ρ t = i
            · subst hi2
              have hsz : E.ρ t < w1.heap.size := Nat.lt_of_lt_of_le hlt hb1.size
              rw [if_pos rfl, if_pos rfl, if_pos hsz, ho1]
              simp [denL, IV.den]
            · rw [if_neg hi2, if_neg hi2]
          rw [hset]
          simp only [underL, IV.under] at hu
          refine ⟨.bool true, h.put t (.cells (.ptr b o :: cs) el), E, rfl, ?_, ⟨Ext.refl _ _, Nat.le_refl _⟩, by simp [IV.under], rfl, rfl⟩
          refine hr1.put (show h.get t = _ from hgt) ⟨extra, lo, hi, rfl, ?_, ?_, ?_⟩
          · intro i hi2
            exact hfz i (by simpa [denL] using hi2)
          · simp only [underL, IV.under] at hun ⊢
            exact ⟨hu.1, hun.2⟩
          · rw [hka]; simp [denL]
  · unfold asS at e
    cases hf : Nat.beq f fAs with
    | false => rw [hf] at e; cases e
    | true => rw [beqT hf]; exact hen

theorem isS_sound {P : Program} {fIs tE tN : Nat} (hc : IsC P fIs tE tN) (hen : Go.Proofs.Enters P fIs) : SoundS P (isS fIs tE tN) ∧ BodyS P (isS fIs tE tN) := by
  refine ⟨fun f args h v h' e => ?_, fun f args h x e => ?_⟩
  · unfold isS at e
    cases hf : Nat.beq f fIs with
    | false => rw [hf] at e; cases e
    | true =>
      rw [hf] at e
      have := beqT hf
      subst this
      simp only [kget_eq, knth_eq, keq_eq] at e
      split at e
      case h_2 => cases e
      rename_i a b o d c
      cases ht : (Nat.beq a tE && Nat.beq d tN) with
      | false => rw [ht] at e; cases e
      | true =>
        rw [ht] at e
        simp only [Bool.and_eq_true] at ht
        have := beqT ht.1
        have := beqT ht.2
        subst_vars
        simp only at e
        split at e
        case h_2 => cases e
        rename_i cs el wr hg
        split at e
        case h_2 => cases e
        rename_i c' hcs
        cases hq : (c' == c) with
        | false => rw [hq] at e; cases e
        | true =>
          rw [hq] at e
          cases e
          have : c' = c := by simpa using hq
          subst this
          intro w0 E w hr hu
          obtain ⟨⟨extra, lo, hi, ho, hfz, hun, hka⟩, hlt⟩ := hr.obj b _ wr (show h.get b = _ from hg)
          have hol : o < cs.length := (List.getElem?_eq_some_iff.1 hcs).1
          have hcell : w.cell? ⟨E.ρ b, o, none⟩ = some (.int .i64 c') := by
            simp only [World.cell?, ho]
            simp [List.getElem?_append_left, length_denL, hol, denL_eq, hcs]
            rw [(List.getElem?_eq_some_iff.1 hcs).2]
            rfl
          have hcall := hc (E.ρ b) o c' w hcell
          have hargs : (denL E [.iface a (.ptr b o), .iface d (.int .i64 c')]).toArray = #[.iface a (.pointer (some ⟨E.ρ b, o, none⟩)), .iface d (.int .i64 c')] := by simp [denL, IV.den]
          rw [hargs]
          refine (callsIn_wide.2 hcall).mono ?_
          rintro ev w' ⟨rfl, rfl⟩
          exact ⟨.bool true, _, E, rfl, hr, Step.refl _ _, by simp [IV.under], rfl, rfl⟩
  · unfold isS at e
    cases hf : Nat.beq f fIs with
    | false => rw [hf] at e; cases e
    | true => rw [beqT hf]; exact hen

/-! ### A closed law over a start that is known in one cell -/
def globH (g rt ng te : Nat) : H := ⟨.node .leaf .leaf (some (.glob g rt ng te, false)), 1⟩

theorem globH_get (g rt ng te i : Nat) : (globH g rt ng te).get i = if i = 0 then some (.glob g rt ng te, false) else none := by
  unfold globH H.get Tr.get
  by_cases h : i = 0
  · subst h; rfl
  · rw [if_neg h]
    have : Nat.beq i 0 = false := by rw [beqE]; exact decide_eq_false h
    rw [this]
    simp only [cond_false]
    cases Nat.beq (i % 2) 1 <;> simp [Tr.get]

theorem globH_rel (P : Program) {g rt ng te : Nat} {w : World} (hg : w.cell? ⟨g, 0, none⟩ = some (.iface rt (.agg #[.pointer (some ⟨ng, te, none⟩)]))) : Rel P w ⟨fun _ => g, id⟩ (globH g rt ng te) w := by
  refine ⟨Below.refl _ _, ?_, ?_, ?_, ?_⟩
  · intro i x hi
    rw [globH_get] at hi
    split at hi
    · next h0 => subst h0; simp [globH]
    · cases hi
  · intro i o wr hi
    rw [globH_get] at hi
    split at hi
    · cases hi
      simp only [World.cell?] at hg
      split at hg
      · next c e fr hob =>
        have hob' : w.heap[g]? = some (.cells c e fr) := hob
        refine ⟨⟨rfl, c, e, fr, hob', by simpa using hg⟩, (Array.getElem?_eq_some_iff.1 hob').1⟩
      · cases hg
    · cases hi
  · intro i o hi
    rw [globH_get] at hi
    split at hi <;> cases hi
  · intro i j x y hi hj _ _
    rw [globH_get] at hi hj
    split at hi
    · next h0 =>
      split at hj
      · next h1 => rw [h0, h1]
      · cases hj
    · cases hi

/-- The check of a closed law at such a start. -/
noncomputable def lawB (P : Program) (T : Tr Ty) (sc : Short) (n f : Nat) (h : H) : Bool := match knth P.funcs.toList f with
  | some fn => match kfun T (kmach P T sc n) fn [] h with
    | some (v, _) => v.same (.bool true)
    | none => false
  | none => false

theorem law_glob {P : Program} {T : Tr Ty} (hT : TabOK P T) (hm : P.follows .mixedOrders = true) {sc : Short} (hs : SoundS P sc ∧ BodyS P sc) {n f g rt ng te : Nat} (hc : lawB P T sc n f (globH g rt ng te) = true)
    {w : World} (hg : w.cell? ⟨g, 0, none⟩ = some (.iface rt (.agg #[.pointer (some ⟨ng, te, none⟩)]))) : Calls P f #[] w fun e w' => e = .returned (.bool true) ∧ Below w.heap.size w w' := by
  unfold lawB at hc
  rw [knth_eq, Array.getElem?_toList] at hc
  split at hc
  case h_2 => cases hc
  rename_i fn hf
  split at hc
  case h_2 => cases hc
  rename_i v h' hrun
  have hsp := run_sound hT hm hs.1 hs.2 hf hrun
  have hv := IV.same_eq _ _ hc
  subst hv
  refine (callsIn_wide.1 (hsp w _ w (globH_rel P hg) (by simp [underL]))).mono ?_
  rintro e w' ⟨v, h2, E', rfl, hr, _, _, rfl, _⟩
  exact ⟨rfl, hr.below⟩
end Sx
