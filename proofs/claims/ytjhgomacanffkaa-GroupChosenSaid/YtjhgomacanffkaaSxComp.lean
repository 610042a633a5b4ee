/- Runs of which only the blocks below a base keep their names: what is made behind it may be named anew, so that heaps keep a concrete shape. -/
import Derived.Test.YtjhgomacanffkaaSxSymb
namespace Sx
open Go Go.RowKit
set_option linter.unusedSimpArgs false

def PostB (P : Program) (w0 : World) (n0 : Nat) (E : Env) (ntmps : Nat) (Q : Out → Fr → H → Prop) : Exit → Act → World → Prop :=
  fun e a' w' => ∃ o fr' h' E', e = o.ex ∧ Rel P w0 E' h' w' ∧ Ext n0 E E' ∧ n0 ≤ h'.next ∧ ARel E' h'.next ntmps fr' a' ∧ Q o fr' h'

def EvB (P : Program) (rd : Option Nat) (n0 ntmps : Nat) (c : Code) (Q : Out → Fr → H → Prop) (fr : Fr) (h : H) : Prop :=
  ∀ w0 E w a, Rel P w0 E h w → n0 ≤ h.next → (∀ l, rd = some l → l < n0) → ARel E h.next ntmps fr a → c.wpIn (Wd (rd.map E.ρ)) 0 P (PostB P w0 n0 E ntmps Q) a w

section
variable {P : Program} {rd : Option Nat} {n0 ntmps : Nat} {Q : Out → Fr → H → Prop} {fr : Fr} {h : H}

theorem rd_extB {E E' : Env} (hrd : ∀ l, rd = some l → l < n0) (s : Ext n0 E E') : rd.map E'.ρ = rd.map E.ρ := by
  cases rd with
  | none => rfl
  | some l => simp [(s l (hrd l rfl)).1]

theorem PostB.step {w0 : World} {E E1 : Env} (s : Ext n0 E E1) {e : Exit} {a : Act} {w : World} (hp : PostB P w0 n0 E1 ntmps Q e a w) : PostB P w0 n0 E ntmps Q e a w := by
  obtain ⟨o, fr', h', E', r1, r2, r3, r4, r5, r6⟩ := hp
  exact ⟨o, fr', h', E', r1, r2, s.trans r3 (Nat.le_refl _), r4, r5, r6⟩

theorem EvB.of_ev {c : Code} (he : Ev P rd ntmps c Q fr h) : EvB P rd n0 ntmps c Q fr h := fun w0 E w a hr hn hrd ha =>
  wpIn_mono (he w0 E w a hr (fun l hl => Nat.lt_of_lt_of_le (hrd l hl) hn) ha) fun _ _ _ ⟨o, fr', h', E', r1, r2, r3, r4, r5⟩ => ⟨o, fr', h', E', r1, r2, r3.ext.mono hn, Nat.le_trans hn r3.le, r4, r5⟩

theorem Ev.of_evB {c : Code} (he : EvB P rd h.next ntmps c Q fr h) : Ev P rd ntmps c Q fr h := fun w0 E w a hr hrd ha =>
  wpIn_mono (he w0 E w a hr (Nat.le_refl _) hrd ha) fun _ _ _ ⟨o, fr', h', E', r1, r2, r3, r4, r5, r6⟩ => ⟨o, fr', h', E', r1, r2, ⟨r3, r4⟩, r5, r6⟩

theorem EvB.mono {c : Code} {Q' : Out → Fr → H → Prop} (he : EvB P rd n0 ntmps c Q fr h) (hq : ∀ o fr h, Q o fr h → Q' o fr h) : EvB P rd n0 ntmps c Q' fr h :=
  fun w0 E w a hr hn hrd ha => wpIn_mono (he w0 E w a hr hn hrd ha) fun _ _ _ ⟨o, fr', h', E', r1, r2, r3, r4, r5, r6⟩ => ⟨o, fr', h', E', r1, r2, r3, r4, r5, hq _ _ _ r6⟩

theorem EvB.seq {x y : Code} (hx : EvB P rd n0 ntmps x (Out.next (fun fr' h' => EvB P rd n0 ntmps y Q fr' h') Q) fr h) : EvB P rd n0 ntmps (.seq x y) Q fr h := by
  intro w0 E w a hr hn hrd ha
  refine wpIn_seq (wpIn_mono (hx w0 E w a hr hn hrd ha) ?_)
  rintro e a' w' ⟨o, fr', h', E', rfl, hr', hs, hn', ha', hq⟩
  cases o with
  | normal =>
    have := hq w0 E' w' a' hr' hn' hrd ha'
    rw [rd_extB hrd hs] at this
    exact wpIn_mono this fun e a w hp => hp.step hs
  | exit id => exact ⟨.exit id, fr', h', E', rfl, hr', hs, hn', ha', hq⟩
  | goto l => exact ⟨.goto l, fr', h', E', rfl, hr', hs, hn', ha', hq⟩
  | ret => exact ⟨.ret, fr', h', E', rfl, hr', hs, hn', ha', hq⟩

theorem EvB.block {id : Nat} {c : Code} (hc : EvB P rd n0 ntmps c (Out.block id Q) fr h) : EvB P rd n0 ntmps (.block id c) Q fr h := by
  intro w0 E w a hr hn hrd ha
  refine wpIn_block (wpIn_mono (hc w0 E w a hr hn hrd ha) ?_)
  rintro e a' w' ⟨o, fr', h', E', rfl, hr', hs, hn', ha', hq⟩
  cases o with
  | normal => exact ⟨.normal, fr', h', E', rfl, hr', hs, hn', ha', hq⟩
  | exit id' =>
    simp only [Out.ex, Exit.inBlock]
    simp only [Out.block] at hq
    split
    · next hid => rw [if_pos hid] at hq; exact ⟨.normal, fr', h', E', rfl, hr', hs, hn', ha', hq⟩
    · next hid => rw [if_neg hid] at hq; exact ⟨.exit id', fr', h', E', rfl, hr', hs, hn', ha', hq⟩
  | goto l => exact ⟨.goto l, fr', h', E', rfl, hr', hs, hn', ha', hq⟩
  | ret => exact ⟨.ret, fr', h', E', rfl, hr', hs, hn', ha', hq⟩

theorem EvB.canon {c : Code} {F : Nat → IV} {ms : List Nat} (hf : FrIs ntmps fr F ms) (he : EvB P rd n0 ntmps c Q (Sx.canon ntmps F ms) h) : EvB P rd n0 ntmps c Q fr h :=
  fun w0 E w a hr hn hrd ha => he w0 E w a hr hn hrd (ha.canon hf)

/-! ### Loops -/
def EvLoopB (P : Program) (rd : Option Nat) (n0 ntmps : Nat) (c : Code) (Q : Out → Fr → H → Prop) (fr : Fr) (h : H) : Prop :=
  ∀ w0 E w a, Rel P w0 E h w → n0 ≤ h.next → (∀ l, rd = some l → l < n0) → ARel E h.next ntmps fr a →
    ∀ (b : Frame) (k : List Item) (cs : List Frame), b.roundOf = rd.map E.ρ →
      ∃ e a' w', PostB P w0 n0 E ntmps Q e a' w' ∧ ArrivesIn (Machine.fenced P (Wd (rd.map E.ρ))) P (lone (b.atR a (.code c :: .inLoop c :: k)) cs w) b k cs e a' w'

theorem EvB.loop {c : Code} (hl : EvLoopB P rd n0 ntmps c Q fr h) : EvB P rd n0 ntmps (.loop c) Q fr h := by
  intro w0 E w a hr hn hrd ha b k cs hro hb hroom
  obtain ⟨e, a', w', hp, harr⟩ := hl w0 E w a hr hn hrd ha b k cs hro
  exact ⟨e, a', w', hp, .of_steps (.one (fenced_calm hb hroom rfl) stepR_loop) harr⟩

theorem EvLoopB.round {c : Code} (hc : EvB P rd n0 ntmps c (Out.next (EvLoopB P rd n0 ntmps c Q) Q) fr h) : EvLoopB P rd n0 ntmps c Q fr h := by
  intro w0 E w a hr hn hrd ha b k cs hro
  obtain ⟨e, a₁, w₁, hp, harr⟩ := hc w0 E w a hr hn hrd ha b (.inLoop c :: k) cs hro trivial (room_Wd _ _)
  obtain ⟨o, fr', h', E', rfl, hr', hs, hn', ha', hq⟩ := hp
  have pass : ∀ o : Out, o ≠ .normal → Q o fr' h' → ArrivesIn (Machine.fenced P (Wd (rd.map E.ρ))) P (lone (b.atR a (.code c :: .inLoop c :: k)) cs w) b (.inLoop c :: k) cs o.ex a₁ w₁ →
      ∃ e a' w', PostB P w0 n0 E ntmps Q e a' w' ∧ ArrivesIn (Machine.fenced P (Wd (rd.map E.ρ))) P (lone (b.atR a (.code c :: .inLoop c :: k)) cs w) b k cs e a' w' := fun o hne hq harr =>
    ⟨o.ex, a₁, w₁, ⟨o, fr', h', E', rfl, hr', hs, hn', ha', hq⟩, .pass (x := .inLoop c) rfl (fun _ _ => .inl (by cases o <;> simp [Out.ex] at hne ⊢)) harr⟩
  cases o with
  | normal =>
    have r1 := rd_extB hrd hs
    obtain ⟨e₂, a₂, w₂, hp₂, harr₂⟩ := hq w0 E' w₁ a₁ hr' hn' hrd ha' b k cs (by rw [r1]; exact hro)
    rw [r1] at harr₂
    exact ⟨e₂, a₂, w₂, hp₂.step hs, .of_steps (StepsIn.trans harr (.one (fenced_calm (n := 0) trivial (room_Wd _ _) rfl) stepR_inLoop)) harr₂⟩
  | exit id => exact pass _ (by simp) hq harr
  | goto l => exact pass _ (by simp) hq harr
  | ret => exact pass _ (by simp) hq harr

theorem EvLoopB.inv {c : Code} (I : Nat → Fr → H → Prop) (round : ∀ m fr h, I m fr h → EvB P rd n0 ntmps c (Out.next (fun fr' h' => ∃ m', m' < m ∧ I m' fr' h') Q) fr h) :
    ∀ m fr h, I m fr h → EvLoopB P rd n0 ntmps c Q fr h := by
  intro m
  induction m using Nat.strongRecOn with
  | _ m ih =>
    intro fr h hi
    refine EvLoopB.round ((round m fr h hi).mono fun o fr' h' hq => ?_)
    cases o with
    | normal => obtain ⟨m', hm, hi'⟩ := hq; exact ih m' hm fr' h' hi'
    | _ => exact hq
end

/-! ### Parts -/
section
variable (P : Program) (rd : Option Nat) (n0 n : Nat)
def EvSB : List Code → (Out → Fr → H → Prop) → Fr → H → Prop
  | [], Q => Q .normal
  | c :: cs, Q => EvB P rd n0 n c (Out.next (EvSB cs Q) Q)
end

section
variable {P : Program} {rd : Option Nat} {n0 n : Nat}
theorem EvSB.flat : ∀ (c : Code) (cs : List Code) {Q : Out → Fr → H → Prop} {fr : Fr} {h : H}, EvSB P rd n0 n (Sx.flat c ++ cs) Q fr h → EvSB P rd n0 n (c :: cs) Q fr h := by
  intro c
  induction c with
  | seq x y ihx ihy =>
    intro cs Q fr h he
    simp only [Sx.flat, List.append_assoc] at he
    have h1 := ihx _ he
    refine EvB.seq (EvB.mono (c := x) h1 ?_)
    intro o fr h ho
    cases o with
    | normal => exact ihy cs ho
    | _ => exact ho
  | _ => intro cs Q fr h he; exact he
theorem EvB.of_flat {c : Code} {Q : Out → Fr → H → Prop} {fr : Fr} {h : H} {l : List Code} (hl : Sx.flat c = l) (he : EvSB P rd n0 n l Q fr h) : EvB P rd n0 n c Q fr h := by
  subst hl
  have h1 : EvSB P rd n0 n (c :: []) Q fr h := EvSB.flat c [] (by simpa using he)
  refine EvB.mono (c := c) h1 fun o fr h ho => ?_
  cases o <;> exact ho
theorem EvSB.canon {l : List Code} {Q : Out → Fr → H → Prop} {fr : Fr} {h : H} {F : Nat → IV} {ms : List Nat} (hf : FrIs n fr F ms) (hl : l ≠ []) (he : EvSB P rd n0 n l Q (Sx.canon n F ms) h) : EvSB P rd n0 n l Q fr h := by
  cases l with
  | nil => exact absurd rfl hl
  | cons c cs => exact EvB.canon (c := c) hf he

theorem pSeqs_soundB {r : Pn} (hr : SoundP P r) {f : Nat} {post : List Code} {Q : Out → Fr → H → Prop} : ∀ {pre : List Code} {fr : Fr} {h : H} {o : Out} {fr' : Fr} {h' : H} {ob : List Prop},
    pSeqs r f rd n pre fr h = some (o, fr', h', ob) → AllP ob → Out.next (EvSB P rd n0 n post Q) Q o fr' h' → EvSB P rd n0 n (pre ++ post) Q fr h
  | [], fr, h, o, fr', h', ob, e, _, hq => by cases e; exact hq
  | c :: cs, fr, h, o, fr', h', ob, e, hob, hq => by
    simp only [pSeqs] at e
    split at e
    case h_1 => cases e
    rename_i o1 fr1 h1 ob1 hx
    cases o1 with
    | normal =>
      simp only at e
      split at e
      case h_1 => cases e
      rename_i o2 fr2 h2 ob2 hy
      cases e
      have hb := AllP.append hob
      refine EvB.mono (c := c) (EvB.of_ev (hr.code _ _ _ _ _ _ _ _ _ _ hx hb.1)) ?_
      rintro o2 f2 h2 ⟨rfl, rfl, rfl⟩
      exact pSeqs_soundB hr hy hb.2 hq
    | _ =>
      cases e
      refine EvB.mono (c := c) (EvB.of_ev (hr.code _ _ _ _ _ _ _ _ _ _ hx hob)) ?_
      rintro o2 f2 h2 ⟨rfl, rfl, rfl⟩
      exact hq

variable {T : Tr Ty} (hT : TabOK P T) (hm : P.follows .mixedOrders = true)
include hT hm in
theorem EvSB.px {oc : Nat → Nat → Option It} {fuel f : Nat} {pre post : List Code} {fr : Fr} {h : H} {F : Nat → IV} {ms : List Nat}
    {live : List Nat} {o : Out} {vals : List IV} {h' : H} {ms' : List Nat} {ob : List Prop} {Q : Out → Fr → H → Prop} (hf : FrIs n fr F ms) (hpre : (pre ++ post) ≠ [])
    (hrun : psR P T oc fuel f rd n pre (Sx.canon n F ms) h live = some (o, vals, h', ms', ob)) (hob : AllP ob) (hk : ∀ fr' g, FrIs n fr' (ov live vals g) ms' → Out.next (EvSB P rd n0 n post Q) Q o fr' h') : EvSB P rd n0 n (pre ++ post) Q fr h := by
  refine EvSB.canon hf hpre ?_
  unfold psR at hrun
  split at hrun
  case h_2 => cases hrun
  rename_i o1 fr1 h1 ob1 hx
  cases hrun
  exact pSeqs_soundB (pMach_sound hT hm oc fuel) hx hob (hk fr1 fr1.tm.tmp ⟨rfl, fun j _ => (ov_self _ _ _).symm⟩)

include hT hm in
theorem EvSB.pxEnd {oc : Nat → Nat → Option It} {fuel f : Nat} {pre : List Code} {fr : Fr} {h : H} {F : Nat → IV} {ms : List Nat}
    {live : List Nat} {o : Out} {vals : List IV} {h' : H} {ms' : List Nat} {ob : List Prop} {Q : Out → Fr → H → Prop} (hf : FrIs n fr F ms) (hpre : pre ≠ [])
    (hrun : psR P T oc fuel f rd n pre (Sx.canon n F ms) h live = some (o, vals, h', ms', ob)) (hob : AllP ob) (hk : ∀ fr' g, FrIs n fr' (ov live vals g) ms' → Q o fr' h') : EvSB P rd n0 n pre Q fr h := by
  have := EvSB.px (n0 := n0) (post := []) hT hm (Q := Q) hf (by rw [List.append_nil]; exact hpre) hrun hob fun fr' g hf' => by
    have := hk fr' g hf'
    cases o <;> exact this
  rw [List.append_nil] at this
  exact this

def RoundEndsB (P : Program) (rd : Option Nat) (n0 n id : Nat) (post : List Code) (Q : Out → Fr → H → Prop) (I : Nat → Fr → H → Prop) (m : Nat) : Out → Fr → H → Prop
  | .normal, fr, h => ∃ m', m' < m ∧ I m' fr h
  | .exit id', fr, h => if id' = id then EvSB P rd n0 n post Q fr h else Q (.exit id') fr h
  | o, fr, h => Q o fr h

theorem RoundEndsB.out {id : Nat} {post : List Code} {Q : Out → Fr → H → Prop} {I : Nat → Fr → H → Prop} {m : Nat} {fr : Fr} {h : H} (he : EvSB P rd n0 n post Q fr h) :
    RoundEndsB P rd n0 n id post Q I m (.exit id) fr h := by
  simp only [RoundEndsB, if_true]
  exact he

theorem EvSB.loop {id : Nat} {body : Code} {post : List Code} {Q : Out → Fr → H → Prop} {fr : Fr} {h : H} (I : Nat → Fr → H → Prop) (m : Nat) (hI : I m fr h)
    (round : ∀ m fr h, I m fr h → EvB P rd n0 n body (RoundEndsB P rd n0 n id post Q I m) fr h) : EvSB P rd n0 n (.block id (.loop body) :: post) Q fr h := by
  refine EvB.block (EvB.loop (EvLoopB.inv I (fun m fr h hi => EvB.mono (round m fr h hi) ?_) m fr h hI))
  intro o fr h ho
  cases o with
  | normal => exact ho
  | exit id' =>
    simp only [RoundEndsB] at ho
    simp only [Out.next, Out.block]
    split
    · next e => rw [if_pos e] at ho; exact ho
    · next e => rw [if_neg e] at ho; exact ho
  | _ => exact ho
end

/-! ### New names -/
def Bx.renOK (n0 i n2 : Nat) (g : Nat → Nat) : Bx → Bx → Prop
  | .cells cs e, o2 => ∃ cs2, o2 = .cells cs2 e ∧ cs = renL g cs2 ∧ underL n2 cs2
  | .ro off cs, o2 => ∃ cs2, o2 = .ro off cs2 ∧ cs = renL g cs2 ∧ underL n2 cs2
  | .defs t, o2 => o2 = .defs t
  | .glob a b c d, o2 => o2 = .glob a b c d
  | .loop st pd nt tm ps asg bd d, o2 => o2 = .loop st pd nt tm ps asg bd d ∧ i < n0
  | _, _ => False

structure RenOK (n0 : Nat) (g : Nat → Nat) (h h2 : H) : Prop where
  fix : ∀ i, i < n0 → g i = i
  lt : ∀ i x, h2.get i = some x → i < h2.next
  get : ∀ i o2 wr, h2.get i = some (o2, wr) → ∃ o, h.get (g i) = some (o, wr) ∧ o.renOK n0 i h2.next g o2
  inj : ∀ i j x y, h2.get i = some x → h2.get j = some y → x.2 = true ∨ y.2 = true → g i = g j → i = j
  le : n0 ≤ h2.next

theorem ORel.ren {P : Program} {E : Env} {n n0 n2 i : Nat} {g : Nat → Nat} (hfix : ∀ i, i < n0 → g i = i) {o o2 : Bx} {ob : Option Obj} (h : ORel P E n (g i) o ob) (hr : o.renOK n0 i n2 g o2) : ORel P (E.ren g) n2 i o2 ob := by
  cases o with
  | cells cs e =>
    obtain ⟨cs2, rfl, rfl, hu⟩ := hr
    obtain ⟨extra, lo, hh, h1, h2, h3, h4⟩ := h
    rw [denL_ren] at h1 h2 h4
    exact ⟨extra, lo, hh, h1, h2, hu, h4⟩
  | ro off cs =>
    obtain ⟨cs2, rfl, rfl, hu⟩ := hr
    obtain ⟨⟨c, e, fr, h1, h2⟩, h3⟩ := h
    refine ⟨⟨c, e, fr, h1, fun j v hj => ?_⟩, hu⟩
    have := h2 j (v.ren g) (by
      have hl : ∀ l : List IV, renL g l = l.map (IV.ren g) := fun l => by
        induction l with
        | nil => rfl
        | cons a l ih => simp [renL, ih]
      rw [hl, List.getElem?_map, hj]; rfl)
    rwa [IV.den_ren] at this
  | defs t => cases hr; exact h
  | glob a b c d => cases hr; exact h
  | loop st pd nt tm ps asg bd d =>
    obtain ⟨rfl, hi⟩ := hr
    rw [hfix i hi] at h
    obtain ⟨tmps, fn, h1, h2, h3, h4, h5⟩ := h
    have hx : Ext i E (E.ren g) := fun j hj => by
      simp only [Env.ren]
      rw [hfix j (by omega)]
      exact ⟨rfl, rfl⟩
    refine ⟨tmps, fn, ?_, h2, fun j => ?_, h4, h5⟩
    · rw [(hx d h5).1]; exact h1
    · rw [h3 j, IV.den_ext hx _ (h4 j)]
  | _ => exact hr.elim

theorem Rel.ren {P : Program} {w0 w : World} {E : Env} {h h2 : H} {n0 : Nat} {g : Nat → Nat} (hr : Rel P w0 E h w) (hg : RenOK n0 g h h2) : Rel P w0 (E.ren g) h2 w := by
  refine ⟨hr.below, hg.lt, fun i o wr hi => ?_, fun i o hi => ?_, fun i j x y hi hj hw he => ?_⟩
  · obtain ⟨o1, h1, h2⟩ := hg.get i o wr hi
    obtain ⟨a, b⟩ := hr.obj _ _ _ h1
    exact ⟨a.ren hg.fix h2, b⟩
  · obtain ⟨o1, h1, _⟩ := hg.get i o true hi
    exact hr.wr _ _ h1
  · obtain ⟨o, wr⟩ := x
    obtain ⟨o', wr'⟩ := y
    obtain ⟨o1, h1, _⟩ := hg.get i o wr hi
    obtain ⟨o2, h2, _⟩ := hg.get j o' wr' hj
    exact hg.inj i j _ _ hi hj hw (hr.inj _ _ _ _ h1 h2 hw he)

/-- At a heap, and a frame, whose blocks have other names. -/
theorem EvB.ren {P : Program} {rd : Option Nat} {n0 n : Nat} {c : Code} {Q : Out → Fr → H → Prop} {fr fr2 : Fr} {h h2 : H} (g : Nat → Nat) (hg : RenOK n0 g h h2) (hms : fr2.marks = fr.marks) (hmf : ∀ r ∈ fr.marks, r < n0)
    (htm : ∀ j, j < n → fr.tm.tmp j = (fr2.tm.tmp j).ren g ∧ (fr2.tm.tmp j).under h2.next) (hdead : ∀ j, n ≤ j → fr2.tm.tmp j = undefI) (he : EvB P rd n0 n c Q fr2 h2) : EvB P rd n0 n c Q fr h := by
  intro w0 E w a hr hn hrd ha
  have hx : Ext n0 E (E.ren g) := fun i hi => by simp only [Env.ren]; rw [hg.fix i hi]; exact ⟨rfl, rfl⟩
  have ha2 : ARel (E.ren g) h2.next n fr2 a := by
    refine ⟨⟨ha.f.size, fun j => ?_, fun j => ?_⟩, ?_, ?_⟩
    · by_cases hj : j < n
      · rw [ha.f.val j, (htm j hj).1, IV.den_ren]
      · rw [hdead j (by omega), den_undef, Array.getD_eq_getD_getElem?, Array.getElem?_eq_none (by rw [ha.f.size]; omega)]
        rfl
    · by_cases hj : j < n
      · exact (htm j hj).2
      · rw [hdead j (by omega)]; simp [undefI, IV.under, underL]
    · rw [ha.d, hms]
      refine List.map_congr_left fun r hr' => ?_
      rw [(hx r (hmf r hr')).1]
    · intro r hr'
      rw [hms] at hr'
      exact Nat.lt_of_lt_of_le (hmf r hr') hg.le
  have := he w0 _ w a (hr.ren hg) hg.le hrd ha2
  rw [rd_extB hrd hx] at this
  exact wpIn_mono this fun e a w hp => hp.step hx
end Sx
