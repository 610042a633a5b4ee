/- A function with one deferred call, which recovers. -/
import Derived.Test.YtjeakifmlmmpaaaGreatDoorSxNMach
import Derived.RecoverIn
namespace Sx
open Go Go.RowKit
set_option linter.unusedSimpArgs false

/-- A body that begins with recover(). -/
def recOp (c : Code) : Option (Tmp × Code) := match c with
  | .seq (.region _ ops false) rest => match ops.toList with
    | [o] => match o.op, o.dst, o.guard with
      | .call c, some d, none => match c.callee, c.args.toList with
        | .builtin .recover, [] => some (d, rest)
        | _, _ => none
      | _, _, _ => none
    | _ => none
  | _ => none

/-- The value of a panic, as an ideal one. -/
def uV : Value → Option IV
  | .iface t (.agg a) => match a.toList with
    | [.int k n] => some (.iface t (.agg [.int k n]))
    | _ => none
  | _ => none
theorem uV_den {u : Value} {v : IV} (h : uV u = some v) : (∀ E, v.den E = u) ∧ ∀ n, v.under n := by
  unfold uV at h
  split at h
  case h_2 => cases h
  rename_i t a
  split at h
  case h_2 => cases h
  rename_i k n ha
  cases h
  refine ⟨fun E => ?_, fun n => by simp [IV.under, underL]⟩
  simp only [IV.den, denL]
  congr 2
  apply Array.ext'
  rw [ha]

noncomputable def nTold (P : Program) (r : Rn) (ft b : Nat) (pv : IV) (h : H) : Option H := match knth P.funcs.toList ft with
  | some fn => match okName fn with
    | true => none
    | false => match fn.body, fn.results.toList with
      | some c, [] => match recOp c with
        | some (d, rest) => match Nat.blt d fn.ntmps && Nat.ble 1 fn.ntmps with
          | true => ksetT (mkTm [.ptr b 0] 0 .leaf) d (some pv) fun tm => match r.code none fn.ntmps rest ⟨tm, []⟩ h with
            | some (o, fr2, h2) => match fr2.marks, o with
              | [], .normal => some h2
              | [], .ret => some h2
              | _, _ => none
            | none => none
          | false => none
        | none => none
      | _, _ => none
  | none => none

/-- What the deferred call's mode is, and how it leaves it. -/
inductive ModeOf : Option Value → IV → FrameMode → FrameMode → Prop
  | ret : ModeOf none .nilif .returning .returning
  | pan {u v} : uV u = some v → ModeOf (some u) v (.panicking [{ v := u, recovered := false }]) (.panicking [{ v := u, recovered := true }])

theorem modeOf_rec {x : Option Value} {pv : IV} {u u' : FrameMode} (hm : ModeOf x pv u u') (E : Env) (c₀ : Frame) (cs : List Frame) (hc : c₀.mode = u) :
    (match recoverD (c₀ :: cs) with
      | some (v, cs') => v = pv.den E ∧ cs' = { c₀ with mode := u' } :: cs
      | none => pv = .nilif ∧ u' = u) ∧ ∀ n, pv.under n := by
  cases hm with
  | ret =>
    have : recoverD (c₀ :: cs) = none := by simp [recoverD, hc]
    rw [this]
    exact ⟨⟨rfl, rfl⟩, fun n => by simp [IV.under]⟩
  | @pan u v hu =>
    have : recoverD (c₀ :: cs) = some (u, { c₀ with mode := .panicking [{ v := u, recovered := true }] } :: cs) := by simp [recoverD, hc]
    rw [this]
    exact ⟨⟨((uV_den hu).1 E).symm, rfl⟩, (uV_den hu).2⟩

theorem modeOf_settle {x : Option Value} {pv : IV} {u u' : FrameMode} (hm : ModeOf x pv u u') : settle u' = .returning := by
  cases hm <;> simp [settle]

theorem nTold_sound {P : Program} {T : Tr Ty} (hT : TabOK P T) {r : Rn} (hr : SoundR P r) {ft b : Nat} {pv : IV} {h h2 : H} (e : nTold P r ft b pv h = some h2) :
    Go.Proofs.Enters P ft ∧ ∀ {x : Option Value} {u u' : FrameMode}, ModeOf x pv u u' → ∀ {w0 : World} {E : Env} {w : World}, Rel P w0 E h w → b < h.next →
      CallsDIn Fence.wide 0 P ft #[.pointer (some ⟨E.ρ b, 0, none⟩)] u w fun e u2 w' => (∃ v, e = .returned v) ∧ u2 = u' ∧ ∃ E', Rel P w0 E' h2 w' ∧ Step E h E' h2 := by
  unfold nTold at e
  rw [knth_eq, Array.getElem?_toList] at e
  split at e
  case h_2 => cases e
  rename_i fn hf
  split at e
  · cases e
  rename_i hn
  split at e
  case h_2 => cases e
  rename_i c hb hres
  refine ⟨enters hf hn hb, ?_⟩
  intro x u u' hm w0 E w hrel hbn
  split at e
  case h_2 => cases e
  rename_i d rest hrec
  split at e
  case h_2 => cases e
  rename_i hlt
  simp only [Bool.and_eq_true, Nat.blt_eq] at hlt
  have hle := Nat.le_of_ble_eq_true hlt.2
  rw [ksetT_eq] at e
  split at e
  case h_2 => cases e
  rename_i o fr2 h2' hx
  refine callsDIn_of_wpSIn hf hb trivial fun c₀ cs hc => ?_
  -- the body
  unfold recOp at hrec
  split at hrec
  case h_2 => cases hrec
  rename_i id ops rest'
  split at hrec
  case h_2 => cases hrec
  rename_i o1 hops
  split at hrec
  case h_2 => cases hrec
  rename_i c1 d' hop hdst hg
  split at hrec
  case h_2 => cases hrec
  rename_i hcal hargs
  cases hrec
  have hsize : ops.size = 1 := by rw [← Array.length_toList, hops]; rfl
  have ho : ops[0]? = some o1 := by rw [← Array.getElem?_toList, hops]; rfl
  have hfr := frame_mk (E := E) (n := h.next) (ntmps := fn.ntmps) (args := [.ptr b 0]) (by simp [underL, IV.under, hbn]) (by simpa using hle)
  have hargs0 : (denL E [.ptr b 0]).toArray = #[.pointer (some ⟨E.ρ b, 0, none⟩)] := by simp [denL, IV.den]
  rw [hargs0] at hfr
  obtain ⟨hmode, hpu⟩ := modeOf_rec hm E c₀ cs hc
  have hput := hfr.put (d := some d) (v := pv) (fun k hk => by cases hk; exact hlt.1) (hpu _)
  refine wpSIn_seq (wpSIn_region ?_)
  rw [hsize, show List.range 1 = [0] from rfl]
  have hexec : (execOp (Act.eval { tmps := #[.pointer (some ⟨E.ρ b, 0, none⟩)] ++ Array.replicate (fn.ntmps - 1) undef, defers := [] }) o1).run P w = .ok .recover w := by
    obtain ⟨callee, args, argTypes⟩ := c1
    simp only at hcal
    subst hcal
    simp only [execOp, hop]
    rfl
  have hwant : Region.wanted o1 (yielded ops ({ tmps := #[.pointer (some ⟨E.ρ b, 0, none⟩)] ++ Array.replicate (fn.ntmps - 1) undef, defers := [] } : Act).tmps) = true := by
    simp [Region.wanted, hg]
  -- behind recover()
  have hrest : ∀ cs', cs' = ({ c₀ with mode := u' } : Frame) :: cs →
      rest.wpSIn Fence.wide 0 P (bodyPostS P fn c₀ cs fun e u2 w' => (∃ v, e = .returned v) ∧ u2 = u' ∧ ∃ E', Rel P w0 E' h2 w' ∧ Step E h E' h2)
        (Act.put { tmps := #[.pointer (some ⟨E.ρ b, 0, none⟩)] ++ Array.replicate (fn.ntmps - 1) undef, defers := [] } (some d) (pv.den E)) cs' w := by
    intro cs' hcs
    subst hcs
    refine wpSIn_of_wpIn rfl ?_
    have hev := hr.code _ _ _ _ _ _ _ _ hx w0 E w _ hrel (fun l hl => by cases hl) hput
    refine wpIn_mono hev ?_
    rintro e' a' w' ⟨o2, fr', h', E', rfl, r1, r2, r3, rfl, rfl, rfl⟩
    have hmk : fr'.marks = [] ∧ (o2 = .normal ∨ o2 = .ret) ∧ h' = h2 := by
      split at e
      · rename_i hm1; cases e; exact ⟨hm1, .inl rfl, rfl⟩
      · rename_i hm1; cases e; exact ⟨hm1, .inr rfl, rfl⟩
      · cases e
    obtain ⟨m1, m2, rfl⟩ := hmk
    have hd0 : a'.defers = [] := by rw [r3.d, m1]; rfl
    have hrr := results_run hT r1 r3.f (fn := fn) (vs := []) (by rw [hres]; rfl)
    have fin : a'.defers = [] ∧ ∃ u2, ({ c₀ with mode := u' } : Frame) :: cs = { c₀ with mode := u2 } :: cs ∧ ∃ v, (results fn a'.tmps).run P w' = .ok v w' ∧ ((∃ v', Ending.returned v = .returned v') ∧ u2 = u' ∧ ∃ E', Rel P w0 E' h' w' ∧ Step E h E' h') :=
      ⟨hd0, u', rfl, _, hrr.1, ⟨_, rfl⟩, rfl, E', r1, r2⟩
    rcases m2 with rfl | rfl <;> exact fin
  simp only [wpOpsSIn, ho]
  refine ⟨fun _ _ => trivial, ?_⟩
  have hsz : (#[Value.pointer (some ⟨E.ρ b, 0, none⟩)]).size = 1 := rfl
  rw [hsz]
  rw [if_pos hwant, hexec]
  simp only [hdst]
  split at hmode
  · rename_i v cs' hrc
    rw [hrc]
    simp only
    rw [hmode.1]
    exact hrest cs' hmode.2
  · rename_i hrc
    rw [hrc]
    simp only
    have h3 : pv.den E = .nilIface := by rw [hmode.1]; rfl
    rw [← h3]
    refine hrest _ ?_
    rw [hmode.2, ← hc]

/-! ### The function -/
def doEnd (x : Out) : Option (Option Value × IV) := match x with
  | .normal => some (none, .nilif)
  | .ret => some (none, .nilif)
  | .panic u => match uV u with
    | some v => some (some u, v)
    | none => none
  | _ => none

noncomputable def nDoes (P : Program) (T : Tr Ty) (r : Rn) (X : Xn) (fn : Func) (vs0 : List IV) (h : H) : Option (IV × H) := match okName fn with
  | true => none
  | false => match fn.body, fn.results.toList with
    | some c, [.cell a t] => match Nat.ble vs0.length fn.ntmps && Nat.beq a kT with
      | true => match X.code none fn.ntmps c ⟨mkTm vs0 0 .leaf, []⟩ h with
        | some [(o, fr, h1)] => match fr.marks, doEnd o with
          | [.call ft b], some (_, pv) => match nTold P r ft b pv h1 with
            | some h2 => match resI T h2 fr.tm [.cell kT t] with
              | some vs => fIV 3 (resV vs) fun v => some (v, h2)
              | none => none
            | none => none
          | _, _ => none
        | _ => none
      | false => none
    | _, _ => none

theorem resI_kT {T : Tr Ty} {h : H} {tm tm' : Tm} (he : tm.tmp kT = tm'.tmp kT) (t : TypeId) : resI T h tm [.cell kT t] = resI T h tm' [.cell kT t] := by
  simp only [resI, he]

theorem nDoes_sound {P : Program} {T : Tr Ty} (hT : TabOK P T) {r : Rn} (hr : SoundR P r) {X : Xn} (hX : SoundX P X) {f : Nat} {fn : Func} (hf : P.funcs[f]? = some fn) {args : List IV} {h : H} {v : IV} {h' : H} (e : nDoes P T r X fn args h = some (v, h')) :
    SpEq P f args h v h' ∧ Go.Proofs.Enters P f := by
  unfold nDoes at e
  split at e
  · cases e
  rename_i hn
  split at e
  case h_2 => cases e
  rename_i c a t hb hres
  refine ⟨?_, enters hf hn hb⟩
  split at e
  case h_2 => cases e
  rename_i hl
  simp only [Bool.and_eq_true] at hl
  have hle := Nat.le_of_ble_eq_true hl.1
  have ha4 : a = kT := Nat.eq_of_beq_eq_true hl.2
  subst ha4
  split at e
  case h_2 => cases e
  rename_i o fr h1 hx
  split at e
  case h_2 => cases e
  rename_i ft b x pv hmk hde
  split at e
  case h_2 => cases e
  rename_i h2 htold
  split at e
  case h_2 => cases e
  rename_i vs hvs
  rw [fIV_eq] at e
  cases e
  intro w0 E w hrel hu
  refine callsIn_of_wp_marks hf hb trivial ?_ rfl
  have hev := hX.code _ _ _ _ _ _ hx w0 E w _ hrel (fun l hl => by cases hl) (frame_mk hu hle)
  refine wpIn_mono hev ?_
  rintro e' a' w' ⟨o2, fr', h1', E', rfl, r1, r2, r3, ⟨y, hy, hy1, hy2, hy3, hy4⟩⟩
  rw [List.mem_singleton] at hy
  subst hy
  simp only at hy1 hy2 hy3 hy4
  subst hy1
  subst hy2
  have htm : fr'.tm.tmp kT = fr.tm.tmp kT := by
    rcases hy4 with rfl | ⟨_, h4⟩
    · rfl
    · exact h4.symm
  have hmk' : fr'.marks = [.call ft b] := by rw [← hy3]; exact hmk
  have hbn : b < h1.next := by
    have := r3.u (.call ft b) (by rw [hmk']; simp)
    simpa [Mk.blk] using this
  have hdef : a'.defers = [Mk.den E' (.call ft b)] := by rw [r3.d, hmk']; rfl
  obtain ⟨hen, hcall⟩ := nTold_sound hT hr htold
  have key : ∀ u u', ModeOf x pv u u' → u ≠ .run → LeavesInM Fence.wide 0 P fn a'.tmps (fun e w' => ∃ v2 h2' E2, e = .returned (v2.den E2) ∧ Rel P w0 E2 h2' w' ∧ Step E h E2 h2' ∧ v2.under h2'.next ∧ v2 = resV vs ∧ h2' = h') a'.defers u w' := by
    intro u u' hm hur
    rw [hdef]
    have hinv : (invoke (.fn (.func ft) #[]) #[.pointer (some ⟨E'.ρ b, 0, none⟩)]).run P w' = .ok (.enter ft #[.pointer (some ⟨E'.ρ b, 0, none⟩)]) w' := by
      have := hen (#[.pointer (some ⟨E'.ρ b, 0, none⟩)] ++ #[]) w'
      simp only [invoke]
      rw [this]
      rfl
    refine ⟨hur, .inr ⟨fun _ => by simp_all [Fence.wide], .func ft, #[], ft, _, rfl, hinv, fun _ _ => trivial, ?_⟩⟩
    refine (hcall hm r1 hbn).mono ?_
    rintro e3 u3 w3 ⟨⟨v3, rfl⟩, rfl, E3, s1, s2⟩
    simp only
    rw [modeOf_settle hm]
    have hf3 := (r3.ext s2).f
    have hvs' : resI T h' fr'.tm fn.results.toList = some vs := by rw [hres, resI_kT htm]; exact hvs
    have hres3 := results_run hT s1 hf3 hvs'
    exact ⟨_, hres3.1, _, _, _, rfl, s1, r2.trans s2, hres3.2, rfl, rfl⟩
  cases o with
  | normal => cases hde; exact key _ _ .ret (by simp)
  | ret => cases hde; exact key _ _ .ret (by simp)
  | panic u =>
    simp only [doEnd] at hde
    split at hde
    case h_2 => cases hde
    rename_i v hv
    cases hde
    exact key _ _ (.pan hv) (by simp)
  | _ => cases hde
end Sx
