/- The plain law of parts; conditions by arithmetic. -/
import Derived.Test.YtjhgomacanffkaaGLaw
namespace Go.Proofs.Ytjhgomacanffkaa
open Go Sx Go.RowKit

/-! ### Which seats are free -/
theorem mem_rowS {i : Nat} {r : Int × Int} {a : Nat × Int} : ∀ {k p : Nat}, a ∈ rowS i r k p ↔ ∃ q, p ≤ q ∧ q < p + k ∧ bit r.2 q = true ∧ a = (8 * i + q, r.1)
  | 0, p => by simp [rowS]; intro q; omega
  | k + 1, p => by
    simp only [rowS, List.mem_append, mem_rowS (k := k)]
    constructor
    · rintro (h | ⟨q, h1, h2, h3⟩)
      · split at h
        · next hb => simp at h; exact ⟨p, Nat.le_refl _, by omega, hb, h⟩
        · simp at h
      · exact ⟨q, by omega, by omega, h3⟩
    · rintro ⟨q, h1, h2, h3, h4⟩
      by_cases e : q = p
      · subst e; left; rw [if_pos h3]; simp [h4]
      · exact .inr ⟨q, by omega, by omega, h3, h4⟩
theorem mem_allS {a : Nat × Int} : ∀ {rs : List (Int × Int)} {i : Nat}, a ∈ allS rs i ↔ ∃ j r q, rs[j]? = some r ∧ q < 8 ∧ bit r.2 q = true ∧ a = (8 * (i + j) + q, r.1)
  | [], i => by simp [allS]
  | r :: rs, i => by
    simp only [allS, List.mem_append, mem_rowS, mem_allS (rs := rs)]
    constructor
    · rintro (⟨q, _, h2, h3, h4⟩ | ⟨j, r', q, h1, h2, h3, h4⟩)
      · exact ⟨0, r, q, rfl, by omega, h3, by simpa using h4⟩
      · exact ⟨j + 1, r', q, by simpa using h1, h2, h3, by rw [h4]; congr 2; omega⟩
    · rintro ⟨j, r', q, h1, h2, h3, h4⟩
      cases j with
      | zero => simp at h1; subst h1; exact .inl ⟨q, by omega, by omega, h3, by simpa using h4⟩
      | succ j => exact .inr ⟨j, r', q, by simpa using h1, h2, h3, by rw [h4]; congr 2; omega⟩
theorem free_at {rs : List (Int × Int)} {c : Int} {tk : Nat → Bool} {i p : Nat} {r : Int × Int} (hr : rs[i]? = some r) (hp : p < 8) : 8 * i + p ∈ free rs c tk ↔ r.1 = c ∧ bit r.2 p = true ∧ tk (8 * i + p) = false := by
  rw [mem_free, mem_allS]
  constructor
  · rintro ⟨⟨j, r', q, h1, h2, h3, h4⟩, h5⟩
    simp only [Prod.mk.injEq] at h4
    obtain rfl : j = i := by omega
    obtain rfl : q = p := by omega
    rw [hr] at h1; cases h1
    exact ⟨h4.2.symm, h3, h5⟩
  · rintro ⟨h1, h2, h3⟩
    exact ⟨⟨i, r, p, hr, hp, h2, by rw [h1]; simp⟩, h3⟩
theorem free_out {rs : List (Int × Int)} {c : Int} {tk : Nat → Bool} {s : Nat} (h : s ∈ free rs c tk) : ∃ r, rs[s / 8]? = some r ∧ r.1 = c ∧ bit r.2 (s % 8) = true ∧ tk s = false := by
  obtain ⟨h1, h2⟩ := mem_free.1 h
  obtain ⟨j, r, q, h3, h4, h5, h6⟩ := mem_allS.1 h1
  simp only [Prod.mk.injEq] at h6
  have e1 : s / 8 = j := by omega
  have e2 : s % 8 = q := by omega
  exact ⟨r, by rw [e1]; exact h3, h6.2.symm, by rw [e2]; exact h5, h2⟩

/-! ### Runs of a list of seats -/
structure Good (F : List Nat) (r : Nat × Nat) : Prop where
  pos : 1 ≤ r.2
  row : r.1 % 8 + r.2 ≤ 8
  left : r.1 % 8 ≠ 0 → r.1 - 1 ∉ F
  right : (r.1 + r.2) % 8 ≠ 0 → r.1 + r.2 ∉ F
theorem runF_cons (r : Nat × Nat) (R : List (Nat × Nat)) : runF (r :: R) = takeP r.1 r.2 ++ runF R := by simp [runF]
theorem takeP_cons {a n : Nat} (h : 1 ≤ n) : ∃ l, takeP a n = a :: l := by
  obtain ⟨m, rfl⟩ : ∃ m, n = m + 1 := ⟨n - 1, by omega⟩
  exact ⟨(List.range m).map fun k => a + (k + 1), by simp [takeP, List.range_succ_eq_map]⟩
theorem good_unique {F : List Nat} : ∀ R R' : List (Nat × Nat), (∀ r ∈ R, Good F r) → (∀ r ∈ R', Good F r) → runF R = runF R' → (∀ s ∈ runF R, s ∈ F) → R = R'
  | [], [], _, _, _, _ => rfl
  | [], r :: R', _, h', he, _ => by
    obtain ⟨l, hl⟩ := takeP_cons (a := r.1) (h' r (List.mem_cons_self ..)).pos
    rw [runF_cons, hl] at he
    simp [runF] at he
  | r :: R, [], h, _, he, _ => by
    obtain ⟨l, hl⟩ := takeP_cons (a := r.1) (h r (List.mem_cons_self ..)).pos
    rw [runF_cons, hl] at he
    simp [runF] at he
  | r :: R, r' :: R', h, h', he, hF => by
    have g := h r (List.mem_cons_self ..)
    have g' := h' r' (List.mem_cons_self ..)
    have e1 : r.1 = r'.1 := by
      obtain ⟨l, hl⟩ := takeP_cons (a := r.1) g.pos
      obtain ⟨l', hl'⟩ := takeP_cons (a := r'.1) g'.pos
      rw [runF_cons, runF_cons, hl, hl'] at he
      simpa using (List.cons.inj he).1
    have e2 : r.2 = r'.2 := by
      have p1 := g.pos
      have p2 := g'.pos
      have r1 := g.row
      have r2 := g'.row
      rcases Nat.lt_trichotomy r.2 r'.2 with hl | hl | hl
      · exfalso
        refine g.right (by rw [e1]; omega) (hF _ ?_)
        rw [he, runF_cons, List.mem_append]
        exact .inl (mem_takeP.2 ⟨by omega, by omega⟩)
      · exact hl
      · exfalso
        refine g'.right (by omega) (hF _ ?_)
        rw [runF_cons, List.mem_append]
        exact .inl (mem_takeP.2 ⟨by omega, by omega⟩)
    obtain rfl : r = r' := Prod.ext e1 e2
    rw [runF_cons, runF_cons] at he
    have he := List.append_cancel_left he
    rw [good_unique R R' (fun q hq => h q (List.mem_cons_of_mem _ hq)) (fun q hq => h' q (List.mem_cons_of_mem _ hq)) he fun s hs => hF s (by rw [runF_cons]; exact List.mem_append_right _ hs)]

/-! ### The code's runs -/
def fl (c : Int) (tk : Nat → Bool) (d : List (Nat × Int)) : List Nat := (d.filter fun a => decide (a.2 = c ∧ tk a.1 = false)).map fun a => a.1
theorem fl_append (c : Int) (tk : Nat → Bool) (d e : List (Nat × Int)) : fl c tk (d ++ e) = fl c tk d ++ fl c tk e := by simp [fl]
theorem mem_fl {c : Int} {tk : Nat → Bool} {d : List (Nat × Int)} {x : Nat} (h : x ∈ fl c tk d) : ∃ a ∈ d, a.1 = x := by
  simp only [fl, List.mem_map, List.mem_filter] at h
  obtain ⟨a, h1, h2⟩ := h
  exact ⟨a, h1.1, h2⟩
theorem fl_yes {c : Int} {tk : Nat → Bool} {a : Nat × Int} (h : a.2 = c ∧ tk a.1 = false) : fl c tk [a] = [a.1] := by simp [fl, h]
theorem fl_no {c : Int} {tk : Nat → Bool} {a : Nat × Int} (h : ¬(a.2 = c ∧ tk a.1 = false)) : fl c tk [a] = [] := by
  unfold fl
  rw [List.filter_cons_of_neg (by simpa using h)]; rfl

structure RInv (F : List Nat) (c : Int) (tk : Nat → Bool) (d : List (Nat × Int)) (st : RSt) : Prop where
  cl : ∀ r ∈ st.1, Good F r
  no : st.2 = none → fl c tk d = []
  cur : ∀ b n, st.2 = some (b, n) → 1 ≤ n ∧ b % 8 + n ≤ 8 ∧ (b % 8 ≠ 0 → b - 1 ∉ F) ∧ b + n - 1 ∈ fl c tk d ∧ ∀ x ∈ fl c tk d, x < b + n
theorem rinv_step {c : Int} {tk : Nat → Bool} {d e : List (Nat × Int)} {a : Nat × Int} {st : RSt} (hp : (d ++ a :: e).Pairwise fun a b => a.1 < b.1) (j : RInv (fl c tk (d ++ a :: e)) c tk d st) :
    RInv (fl c tk (d ++ a :: e)) c tk (d ++ [a]) (rstep c tk st a) := by
  have hF : ∀ x ∈ fl c tk (d ++ a :: e), x ∈ fl c tk d ∨ x = a.1 ∨ a.1 < x := by
    intro x hx
    rw [fl_append] at hx
    rcases List.mem_append.1 hx with hx | hx
    · exact .inl hx
    · obtain ⟨b, hb, rfl⟩ := mem_fl hx
      rcases List.mem_cons.1 hb with rfl | hb
      · exact .inr (.inl rfl)
      · exact .inr (.inr ((List.pairwise_cons.1 (List.pairwise_append.1 hp).2.1).1 b hb))
  have hd : ∀ x ∈ fl c tk d, x < a.1 := by
    intro x hx
    obtain ⟨b, hb, rfl⟩ := mem_fl hx
    exact (List.pairwise_append.1 hp).2.2 b hb a (List.mem_cons_self ..)
  generalize fl c tk (d ++ a :: e) = F at *
  obtain ⟨l, cur⟩ := st
  unfold rstep
  by_cases hs : a.2 = c ∧ tk a.1 = false
  · rw [if_pos hs]
    cases cur with
    | none =>
      have h0 := j.no rfl
      refine ⟨j.cl, by simp, fun b n hbn => ?_⟩
      simp only [Option.some.injEq, Prod.mk.injEq] at hbn
      obtain ⟨rfl, rfl⟩ := hbn
      rw [fl_append, h0, fl_yes hs]
      refine ⟨Nat.le_refl _, by omega, fun h8 hm => ?_, by simp, by simp⟩
      rcases hF _ hm with h | h | h
      · rw [h0] at h; cases h
      · omega
      · omega
    | some q =>
      obtain ⟨b, n⟩ := q
      obtain ⟨h1, h2, h3, h4, h5⟩ := j.cur b n rfl
      have h6 := hd _ h4
      simp only
      by_cases hy : a.1 = b + n ∧ a.1 % 8 ≠ 0
      · rw [if_pos hy]
        refine ⟨j.cl, by simp, fun b' n' hbn => ?_⟩
        simp only [Option.some.injEq, Prod.mk.injEq] at hbn
        obtain ⟨rfl, rfl⟩ := hbn
        rw [fl_append, fl_yes hs]
        refine ⟨by omega, by omega, h3, by rw [List.mem_append]; right; simp; omega, fun x hx => ?_⟩
        rcases List.mem_append.1 hx with hx | hx
        · have := h5 x hx; omega
        · simp at hx; omega
      · rw [if_neg hy]
        refine ⟨fun r hr => ?_, by simp, fun b' n' hbn => ?_⟩
        · rcases List.mem_append.1 hr with hr | hr
          · exact j.cl r hr
          · simp at hr; subst hr
            refine ⟨h1, h2, h3, fun h8 hm => ?_⟩
            simp only at h8 hm
            rcases hF _ hm with h | h | h
            · have := h5 _ h; omega
            · exact hy ⟨h.symm, by omega⟩
            · omega
        · simp only [Option.some.injEq, Prod.mk.injEq] at hbn
          obtain ⟨rfl, rfl⟩ := hbn
          rw [fl_append, fl_yes hs]
          refine ⟨Nat.le_refl _, by omega, fun h8 hm => ?_, by simp, fun x hx => ?_⟩
          · rcases hF _ hm with h | h | h
            · have := h5 _ h
              exact hy ⟨by omega, h8⟩
            · omega
            · omega
          · rcases List.mem_append.1 hx with hx | hx
            · have := hd x hx; omega
            · simp at hx; omega
  · rw [if_neg hs]
    refine ⟨j.cl, fun h => by rw [fl_append, j.no h, fl_no hs]; rfl, fun b n hbn => ?_⟩
    rw [fl_append, fl_no hs, List.append_nil]
    exact j.cur b n hbn
theorem rinv_all {c : Int} {tk : Nat → Bool} {S : List (Nat × Int)} (hp : S.Pairwise fun a b => a.1 < b.1) : ∀ (e d : List (Nat × Int)) (st : RSt), d ++ e = S → RInv (fl c tk S) c tk d st → RInv (fl c tk S) c tk S (e.foldl (rstep c tk) st)
  | [], d, st, h, j => by rw [List.append_nil] at h; subst h; exact j
  | a :: e, d, st, h, j => by
    rw [List.foldl_cons]
    refine rinv_all hp e (d ++ [a]) _ (by rw [← h]; simp) ?_
    subst h
    exact rinv_step hp j
theorem runs_good (rs : List (Int × Int)) (c : Int) (tk : Nat → Bool) : ∀ r ∈ runs rs c tk, Good (free rs c tk) r := by
  have j := rinv_all (c := c) (tk := tk) (allS_pw rs 0) (allS rs 0) [] ([], none) rfl ⟨by simp, fun _ => rfl, by simp⟩
  intro r hr
  unfold runs runL runsSt at hr
  rcases List.mem_append.1 hr with hr | hr
  · exact j.cl r hr
  · obtain ⟨b, n⟩ := r
    have hb : ((allS rs 0).foldl (rstep c tk) ([], none)).2 = some (b, n) := by simpa using hr
    obtain ⟨h1, h2, h3, _, h5⟩ := j.cur b n hb
    exact ⟨h1, h2, h3, fun _ hm => by have := h5 _ hm; simp only at this; omega⟩

/-! ### lengths are the runs' -/
def lstep2 (q : Nat) (sel : Bool) (st : List (Nat × Nat) × Nat) : List (Nat × Nat) × Nat := bif sel then (st.1, st.2 + 1) else (bif decide (0 < st.2) then (st.1 ++ [(q - st.2, st.2)], 0) else (st.1, 0))
def lRow2 (c : Int) (tk : Nat → Bool) (i : Nat) (r : Int × Int) : Nat → Nat → List (Nat × Nat) × Nat → List (Nat × Nat) × Nat
  | 0, _, st => st
  | m + 1, p, st => lRow2 c tk i r m (p + 1) (lstep2 (8 * i + p) (selAt c tk i r p) st)
def lAll2 (c : Int) (tk : Nat → Bool) : List (Int × Int) → Nat → List (Nat × Nat) → List (Nat × Nat)
  | [], _, out => out
  | r :: rs, i, out => lAll2 c tk rs (i + 1) (lRow2 c tk i r 9 0 (out, 0)).1
theorem lRow2_map (c : Int) (tk : Nat → Bool) (i : Nat) (r : Int × Int) : ∀ (m p : Nat) (st : List (Nat × Nat) × Nat), ((lRow2 c tk i r m p st).1.map (·.2), (lRow2 c tk i r m p st).2) = lRow c tk i r m p (st.1.map (·.2), st.2)
  | 0, _, _ => rfl
  | m + 1, p, st => by
    simp only [lRow2, lRow]
    rw [lRow2_map c tk i r m]
    congr 1
    unfold lstep2 lstep
    cases selAt c tk i r p with
    | true => rfl
    | false => cases h : decide (0 < st.2) <;> simp
theorem lAll2_map (c : Int) (tk : Nat → Bool) : ∀ (rs : List (Int × Int)) (i : Nat) (out : List (Nat × Nat)), (lAll2 c tk rs i out).map (·.2) = lAll c tk rs i (out.map (·.2))
  | [], _, _ => rfl
  | r :: rs, i, out => by
    simp only [lAll2, lAll]
    rw [lAll2_map c tk rs]
    congr 1
    exact congrArg Prod.fst (lRow2_map c tk i r 9 0 (out, 0))

def flat2 (q : Nat) (st : List (Nat × Nat) × Nat) : List Nat := runF st.1 ++ takeP (q - st.2) st.2
theorem lstep2_flat {q : Nat} {sel : Bool} {st : List (Nat × Nat) × Nat} (h : st.2 ≤ q) : flat2 (q + 1) (lstep2 q sel st) = flat2 q st ++ (if sel = true then [q] else []) := by
  obtain ⟨l, k⟩ := st
  simp only at h
  unfold lstep2 flat2
  cases sel with
  | true =>
    simp only [cond_true, if_true, takeP_succ, List.append_assoc, show q + 1 - (k + 1) = q - k by omega, show q - k + k = q by omega]
  | false =>
    cases hk : decide (0 < k) with
    | true => simp [runF, takeP]
    | false =>
      have : k = 0 := by simpa using hk
      subst this
      simp [takeP]
structure LInv (F : List Nat) (i p : Nat) (st : List (Nat × Nat) × Nat) : Prop where
  cl : ∀ r ∈ st.1, Good F r
  le : st.2 ≤ p
  lt : st.2 < p → 8 * i + p - st.2 - 1 ∉ F
theorem lstep2_good {F : List Nat} {i p : Nat} {st : List (Nat × Nat) × Nat} (hp : p ≤ 8) (j : LInv F i p st) {sel : Bool} (hs : sel = true ↔ p < 8 ∧ 8 * i + p ∈ F) : (∀ r ∈ (lstep2 (8 * i + p) sel st).1, Good F r) ∧ (p < 8 → LInv F i (p + 1) (lstep2 (8 * i + p) sel st)) := by
  obtain ⟨l, k⟩ := st
  obtain ⟨h1, h2, h3⟩ := j
  simp only at h1 h2 h3
  unfold lstep2
  cases sel with
  | true =>
    simp only [cond_true]
    exact ⟨h1, fun h8 => ⟨h1, by simp only; omega, fun h => by simp only at h ⊢; have := h3 (by omega); rwa [show 8 * i + (p + 1) - (k + 1) - 1 = 8 * i + p - k - 1 by omega]⟩⟩
  | false =>
    have hn : p < 8 → 8 * i + p ∉ F := fun h8 hm => by have := hs.2 ⟨h8, hm⟩; cases this
    cases hk : decide (0 < k) with
    | true =>
      have hk : 0 < k := by simpa using hk
      have hg : ∀ r ∈ l ++ [(8 * i + p - k, k)], Good F r := by
        intro r hr
        rcases List.mem_append.1 hr with hr | hr
        · exact h1 r hr
        · simp at hr; subst hr
          refine ⟨hk, by simp only; omega, fun h8 => ?_, fun h8 => ?_⟩
          · simp only at h8 ⊢
            exact h3 (by omega)
          · simp only at h8 ⊢
            rw [show 8 * i + p - k + k = 8 * i + p by omega] at h8 ⊢
            exact hn (by omega)
      simp only [cond_true, cond_false]
      exact ⟨hg, fun h8 => ⟨hg, by simp only; omega, fun _ => by simp only; rw [show 8 * i + (p + 1) - 0 - 1 = 8 * i + p by omega]; exact hn h8⟩⟩
    | false =>
      simp only [cond_false]
      exact ⟨h1, fun h8 => ⟨h1, by simp only; omega, fun _ => by simp only; rw [show 8 * i + (p + 1) - 0 - 1 = 8 * i + p by omega]; exact hn h8⟩⟩
theorem lRow2_ok {F : List Nat} {c : Int} {tk : Nat → Bool} {i : Nat} {r : Int × Int} (hF : ∀ p, selAt c tk i r p = true ↔ p < 8 ∧ 8 * i + p ∈ F) : ∀ (m p : Nat) (st : List (Nat × Nat) × Nat), m + p = 8 → LInv F i p st →
    (∀ q ∈ (lRow2 c tk i r (m + 1) p st).1, Good F q) ∧ runF (lRow2 c tk i r (m + 1) p st).1 = flat2 (8 * i + p) st ++ fl c tk (rowS i r m p)
  | 0, p, st, h, j => by
    have hs : selAt c tk i r p = false := by
      cases hh : selAt c tk i r p with
      | false => rfl
      | true => have := (hF p).1 hh; omega
    have hg := (lstep2_good (by omega) j (hF p)).1
    have hfl := lstep2_flat (q := 8 * i + p) (sel := selAt c tk i r p) (st := st) (by have := j.le; omega)
    simp only [lRow2]
    refine ⟨hg, ?_⟩
    rw [hs] at hfl ⊢
    simp only [rowS, fl, List.filter_nil, List.map_nil, List.append_nil]
    have h0 : (lstep2 (8 * i + p) false st).2 = 0 := by unfold lstep2; cases decide (0 < st.2) <;> rfl
    unfold flat2 at hfl
    rw [h0] at hfl
    simpa [takeP, flat2] using hfl
  | m + 1, p, st, h, j => by
    obtain ⟨h1, h2⟩ := lRow2_ok hF m (p + 1) (lstep2 (8 * i + p) (selAt c tk i r p) st) (by omega) ((lstep2_good (by omega) j (hF p)).2 (by omega))
    refine ⟨h1, ?_⟩
    show runF (lRow2 c tk i r (m + 1) (p + 1) (lstep2 (8 * i + p) (selAt c tk i r p) st)).1 = _
    rw [h2, rowS, fl_append, ← List.append_assoc, ← Nat.add_assoc, lstep2_flat (by have := j.le; omega)]
    congr 2
    by_cases hb : bit r.2 p = true
    · rw [if_pos hb]
      by_cases hs : r.1 = c ∧ tk (8 * i + p) = false
      · rw [if_pos ((selAt_iff c tk i r p).2 ⟨by omega, hs.1, hb, hs.2⟩), fl_yes (by exact hs)]
      · rw [if_neg (fun e => by have := (selAt_iff c tk i r p).1 e; exact hs ⟨this.2.1, this.2.2.2⟩), fl_no (by exact hs)]
    · rw [if_neg hb, if_neg (fun e => hb ((selAt_iff c tk i r p).1 e).2.2.1)]
      rfl
theorem lAll2_ok {F : List Nat} {c : Int} {tk : Nat → Bool} : ∀ (rs : List (Int × Int)) (i : Nat) (out : List (Nat × Nat)), (∀ j r p, rs[j]? = some r → (selAt c tk (i + j) r p = true ↔ p < 8 ∧ 8 * (i + j) + p ∈ F)) → (∀ r ∈ out, Good F r) →
    (∀ r ∈ lAll2 c tk rs i out, Good F r) ∧ runF (lAll2 c tk rs i out) = runF out ++ fl c tk (allS rs i)
  | [], i, out, _, h => ⟨h, by simp [lAll2, allS, fl]⟩
  | r :: rs, i, out, hF, h => by
    obtain ⟨h1, h2⟩ := lRow2_ok (F := F) (c := c) (tk := tk) (i := i) (r := r) (fun p => hF 0 r p rfl) 8 0 (out, 0) rfl ⟨h, by simp, fun h => by simp at h⟩
    obtain ⟨h3, h4⟩ := lAll2_ok rs (i + 1) _ (fun j r p hj => by have := hF (j + 1) r p (by simpa using hj); rwa [show i + (j + 1) = i + 1 + j by omega] at this) h1
    refine ⟨h3, ?_⟩
    simp only [lAll2, allS]
    rw [h4, h2, fl_append, List.append_assoc]
    simp [flat2, takeP]
theorem lens_eq (c : Int) (tk : Nat → Bool) (rs : List (Int × Int)) : lAll c tk rs 0 [] = (runs rs c tk).map (·.2) := by
  obtain ⟨h1, h2⟩ := lAll2_ok (F := free rs c tk) (c := c) (tk := tk) rs 0 [] (fun j r p hj => by
    rw [selAt_iff, Nat.zero_add]
    constructor
    · rintro ⟨h8, h⟩; exact ⟨h8, (free_at hj h8).2 h⟩
    · rintro ⟨h8, h⟩; exact ⟨h8, (free_at hj h8).1 h⟩) (by simp)
  have he : lAll2 c tk rs 0 [] = runs rs c tk := good_unique _ _ h1 (runs_good rs c tk) (by rw [h2, runs_flat]; simp [runF, fl, free]) (fun s hs => by rw [h2] at hs; simpa [runF, fl, free] using hs)
  rw [← he, lAll2_map]; rfl

/-! ### One run less -/
theorem eraseIdx_split {α : Type} {R : List α} {i : Nat} {r : α} (h : R[i]? = some r) : R = R.take i ++ r :: R.drop (i + 1) ∧ R.eraseIdx i = R.take i ++ R.drop (i + 1) := by
  have hlt := (List.getElem?_eq_some_iff.1 h).1
  refine ⟨?_, List.eraseIdx_eq_take_drop_succ ..⟩
  rw [List.getElem?_eq_getElem hlt] at h
  cases h
  simp
theorem runs_mark {rs : List (Int × Int)} {c : Int} {tk : Nat → Bool} {i : Nat} {r : Nat × Nat} (h : (runs rs c tk)[i]? = some r) : runs rs c (mark tk (takeP r.1 r.2)) = (runs rs c tk).eraseIdx i := by
  obtain ⟨h1, h2⟩ := eraseIdx_split h
  have hF := runs_flat rs c tk
  have hn := free_nodup rs c tk
  have hm := free_mark rs c tk (takeP r.1 r.2)
  have hsub : ∀ s ∈ free rs c (mark tk (takeP r.1 r.2)), s ∈ free rs c tk := fun s hs => by rw [hm] at hs; exact (List.mem_filter.1 hs).1
  have he : runF ((runs rs c tk).eraseIdx i) = free rs c (mark tk (takeP r.1 r.2)) := by
    rw [h1, runF_append, runF_cons] at hF
    rw [h2, runF_append, hm, ← hF]
    rw [← hF] at hn
    generalize runF ((runs rs c tk).take i) = a at *
    generalize runF ((runs rs c tk).drop (i + 1)) = b at *
    have hn1 := List.nodup_append.1 hn
    have hn2 := List.nodup_append.1 hn1.2.1
    rw [List.filter_append, List.filter_append]
    have fa : (a.filter fun s => !decide (s ∈ takeP r.1 r.2)) = a := List.filter_eq_self.2 fun s hs => by
      simp only [Bool.not_eq_true', decide_eq_false_iff_not]
      exact fun hm => hn1.2.2 s hs s (List.mem_append_left _ hm) rfl
    have fb : (b.filter fun s => !decide (s ∈ takeP r.1 r.2)) = b := List.filter_eq_self.2 fun s hs => by
      simp only [Bool.not_eq_true', decide_eq_false_iff_not]
      exact fun hm => hn2.2.2 s hm s hs rfl
    have ft : ((takeP r.1 r.2).filter fun s => !decide (s ∈ takeP r.1 r.2)) = [] := List.filter_eq_nil_iff.2 fun s hs => by simp [hs]
    rw [fa, fb, ft, List.nil_append]
  refine good_unique (F := free rs c (mark tk (takeP r.1 r.2))) _ _ (runs_good rs c _) (fun q hq => ?_) (by rw [runs_flat, he]) (fun s hs => by rwa [runs_flat] at hs)
  have g := runs_good rs c tk q (List.mem_of_mem_eraseIdx hq)
  exact ⟨g.pos, g.row, fun h8 hm => g.left h8 (hsub _ hm), fun h8 hm => g.right h8 (hsub _ hm)⟩

/-! ### The longest one -/
def atI (L : List Nat) : Nat → Nat
  | 0 => 0
  | i + 1 => if L.getD (atI L i) 0 < L.getD (i + 1) 0 then i + 1 else atI L i
def atP (L : List Nat) : Nat := atI L (L.length - 1)
theorem atI_le (L : List Nat) : ∀ i, atI L i ≤ i
  | 0 => Nat.le_refl _
  | i + 1 => by
    have := atI_le L i
    unfold atI
    split <;> omega
theorem atI_max (L : List Nat) : ∀ i j, j ≤ i → L.getD j 0 ≤ L.getD (atI L i) 0
  | 0, j, h => by obtain rfl : j = 0 := by omega
                  exact Nat.le_refl _
  | i + 1, j, h => by
    have h1 := fun k hk => atI_max L i k hk
    unfold atI
    split
    · next hlt =>
      by_cases e : j = i + 1
      · subst e; exact Nat.le_refl _
      · have := h1 j (by omega); omega
    · next hge =>
      by_cases e : j = i + 1
      · subst e; omega
      · exact h1 j (by omega)
theorem long_at (R : List (Nat × Nat)) : ∀ i, i < R.length → (R.take (i + 1)).foldl (bestP (fun _ => true) fun x y => decide (y.2 < x.2)) none = R[atI (R.map (·.2)) i]?
  | 0, h => by
    obtain ⟨x, R', rfl⟩ : ∃ x R', R = x :: R' := by
      cases R with
      | nil => simp at h
      | cons x R' => exact ⟨x, R', rfl⟩
    rfl
  | i + 1, h => by
    have ih := long_at R i (by omega)
    have hle := atI_le (R.map (·.2)) i
    obtain ⟨x, hx⟩ : ∃ x, R[i + 1]? = some x := ⟨R[i + 1], by simp [h]⟩
    obtain ⟨y, hy⟩ : ∃ y, R[atI (R.map (·.2)) i]? = some y := ⟨R[atI (R.map (·.2)) i], by simp⟩
    have gx : (R.map (·.2)).getD (i + 1) 0 = x.2 := by simp [List.getD_eq_getElem?_getD, hx]
    have gy : (R.map (·.2)).getD (atI (R.map (·.2)) i) 0 = y.2 := by simp [List.getD_eq_getElem?_getD, hy]
    rw [List.take_add_one, hx, Option.toList_some, List.foldl_append, ih, hy]
    simp only [List.foldl_cons, List.foldl_nil, bestP, if_true, atI]
    rw [gx, gy]
    by_cases hlt : y.2 < x.2
    · rw [if_pos hlt, hx]; simp [hlt]
    · rw [if_neg hlt, hy]; simp [hlt]
theorem longP_at {R : List (Nat × Nat)} (h : R ≠ []) : longP R = R[atP (R.map (·.2))]? := by
  have hl : 0 < R.length := List.length_pos_iff.2 h
  have := long_at R (R.length - 1) (by omega)
  rw [show R.length - 1 + 1 = R.length by omega, List.take_length] at this
  unfold longP atP
  rw [this, List.length_map]

/-- How many of the longest ones have n together. -/
def ndP : Nat → List Nat → Nat → Nat
  | 0, _, _ => 0
  | f + 1, L, n => if n = 0 ∨ L = [] then 0 else 1 + ndP f (L.eraseIdx (atP L)) (n - L.getD (atP L) 0)

/-! ### Parts -/
def headB (l : List Nat) (s : Nat) : Bool := decide (s % 8 = 0 ∨ s - 1 ∉ l)
def heads (l : List Nat) : Nat := (l.filter (headB l)).length
theorem heads_perm {l l' : List Nat} (h : l.Perm l') : heads l = heads l' := by
  unfold heads
  have : headB l = headB l' := by
    funext s
    unfold headB
    rw [Bool.eq_iff_iff, decide_eq_true_iff, decide_eq_true_iff, h.mem_iff]
  rw [this]
  exact (h.filter _).length_eq
theorem heads_run {a n : Nat} {l : List Nat} (hn : 1 ≤ n) (hr : a % 8 + n ≤ 8) (h1 : a % 8 ≠ 0 → a - 1 ∉ l) (h2 : ∀ s ∈ l, s % 8 ≠ 0 → s ≠ a + n) (h3 : ∀ s ∈ l, s ∉ takeP a n) : heads (takeP a n ++ l) = 1 + heads l := by
  unfold heads
  rw [List.filter_append, List.length_append]
  congr 1
  · have : (takeP a n).filter (headB (takeP a n ++ l)) = [a] := by
      obtain ⟨m, rfl⟩ : ∃ m, n = m + 1 := ⟨n - 1, by omega⟩
      have e : takeP a (m + 1) = a :: takeP (a + 1) m := by
        simp only [takeP, List.range_succ_eq_map, List.map_cons, List.map_map, Nat.add_zero]
        congr 1
        refine List.map_congr_left fun k _ => ?_
        simp only [Function.comp]; omega
      rw [e, List.filter_cons_of_pos, List.filter_eq_nil_iff.2]
      · intro s hs
        have := mem_takeP.1 hs
        unfold headB
        simp only [decide_eq_true_eq, not_or, Classical.not_not]
        refine ⟨by omega, List.mem_append_left _ ?_⟩
        rw [← e]
        exact mem_takeP.2 ⟨by omega, by omega⟩
      · unfold headB
        simp only [decide_eq_true_eq]
        by_cases h8 : a % 8 = 0
        · exact .inl h8
        · refine .inr fun hm => ?_
          rcases List.mem_append.1 hm with hm | hm
          · rw [← e] at hm
            have := mem_takeP.1 hm; omega
          · exact h1 h8 hm
    rw [this]; rfl
  · congr 1
    refine List.filter_congr fun s hs => ?_
    unfold headB
    rw [Bool.eq_iff_iff, decide_eq_true_iff, decide_eq_true_iff, List.mem_append, not_or]
    constructor
    · rintro (h | h)
      · exact .inl h
      · exact .inr h.2
    · rintro (h | h)
      · exact .inl h
      · by_cases h8 : s % 8 = 0
        · exact .inl h8
        · refine .inr ⟨fun hm => ?_, h⟩
          have hm := mem_takeP.1 hm
          have hns := h3 s hs
          rw [mem_takeP] at hns
          exact h2 s hs h8 (by omega)
theorem heads_one {a n : Nat} (hn : 1 ≤ n) (hr : a % 8 + n ≤ 8) : heads (takeP a n) = 1 := by
  have := heads_run (l := []) hn hr (by simp) (by simp) (by simp)
  rw [List.append_nil] at this
  rw [this]; rfl

theorem search_heads (rs : List (Int × Int)) (c : Int) : ∀ (f n : Nat) (tk : Nat → Bool) (g : Nat), 1 ≤ n → n ≤ f → n ≤ (free rs c tk).length → (runs rs c tk).length ≤ g → heads (searchP rs c f tk n) = ndP g ((runs rs c tk).map (·.2)) n
  | 0, n, tk, g, h1, hf, _, _ => by omega
  | f + 1, n, tk, g, h1, hf, hn, hg => by
    have hfl := runs_flat rs c tk
    have hne : runs rs c tk ≠ [] := by
      intro he
      rw [he] at hfl
      rw [← hfl] at hn
      simp [runF] at hn
      omega
    have hpos : 0 < (runs rs c tk).length := List.length_pos_iff.2 hne
    obtain ⟨g, rfl⟩ : ∃ m, g = m + 1 := ⟨g - 1, by omega⟩
    have hat : atP ((runs rs c tk).map (·.2)) < (runs rs c tk).length := by
      have := atI_le ((runs rs c tk).map (·.2)) (((runs rs c tk).map (·.2)).length - 1)
      unfold atP
      rw [List.length_map] at this ⊢
      omega
    obtain ⟨r0, hr0⟩ : ∃ r, (runs rs c tk)[atP ((runs rs c tk).map (·.2))]? = some r := ⟨_, List.getElem?_eq_getElem hat⟩
    have hv : ((runs rs c tk).map (·.2)).getD (atP ((runs rs c tk).map (·.2))) 0 = r0.2 := by simp [List.getD_eq_getElem?_getD, hr0]
    have hnd : ndP (g + 1) ((runs rs c tk).map (·.2)) n = 1 + ndP g (((runs rs c tk).eraseIdx (atP ((runs rs c tk).map (·.2)))).map (·.2)) (n - r0.2) := by
      rw [ndP, if_neg (by rw [List.map_eq_nil_iff]; exact fun h => h.elim (by omega) hne), hv]
      congr 2
      rw [List.eraseIdx_eq_take_drop_succ, List.eraseIdx_eq_take_drop_succ, List.map_append, List.map_take, List.map_drop]
    rw [hnd]
    unfold searchP
    cases hfit : fitP (runs rs c tk) n with
    | some r =>
      obtain ⟨hm, hle⟩ := fit_some hfit
      have gr := runs_good rs c tk r hm
      have r1 := gr.row
      simp only
      rw [heads_one h1 (by omega)]
      obtain ⟨j, hj, hjr⟩ := List.mem_iff_getElem.1 hm
      have hmax := atI_max ((runs rs c tk).map (·.2)) (((runs rs c tk).map (·.2)).length - 1) j (by rw [List.length_map]; omega)
      have hjd : ((runs rs c tk).map (·.2)).getD j 0 = r.2 := by simp [List.getD_eq_getElem?_getD, hj, hjr]
      rw [hjd] at hmax
      have hv' : ((runs rs c tk).map (·.2)).getD (atI ((runs rs c tk).map (·.2)) (((runs rs c tk).map (·.2)).length - 1)) 0 = r0.2 := hv
      rw [hv'] at hmax
      rw [show n - r0.2 = 0 by omega]
      cases g with
      | zero => rfl
      | succ g => rw [ndP, if_pos (.inl rfl)]
    | none =>
      have hlt := fit_none hfit
      simp only
      rw [longP_at hne, hr0]
      simp only
      have hm : r0 ∈ runs rs c tk := List.mem_of_getElem? hr0
      have gr := runs_good rs c tk r0 hm
      have hr := hlt r0 hm
      have hl := free_mark_run hm
      have hrm := runs_mark hr0
      have hp := gr.pos
      have hin := (search_ok rs c f (n - r0.2) (mark tk (takeP r0.1 r0.2)) (by omega) (by omega)).2.2
      have hin' : ∀ s ∈ searchP rs c f (mark tk (takeP r0.1 r0.2)) (n - r0.2), s ∈ free rs c tk ∧ s ∉ takeP r0.1 r0.2 := fun s hs => by
        have := hin s hs
        rw [free_mark, List.mem_filter] at this
        exact ⟨this.1, by simpa using this.2⟩
      rw [heads_run gr.pos gr.row (fun h8 hm => gr.left h8 (hin' _ hm).1) (fun s hs h8 e => gr.right (by rw [← e]; exact h8) (by rw [← e]; exact (hin' s hs).1)) (fun s hs => (hin' s hs).2)]
      rw [search_heads rs c f (n - r0.2) (mark tk (takeP r0.1 r0.2)) g (by omega) (by omega) (by omega) (by rw [hrm, List.length_eraseIdx]; split <;> omega), hrm]

/-- Into how many parts a list falls, as the code counts. -/
def partB (l : List Nat) (i : Nat) : Bool := decide (i = 0 ∨ l.getD (i - 1) 0 + 1 ≠ l.getD i 0 ∨ l.getD i 0 % 8 = 0)
def spreadP (l : List Nat) (m : Nat) : Nat := ((List.range m).filter (partB l)).length
theorem spread_succ (l : List Nat) (m : Nat) : spreadP l (m + 1) = spreadP l m + (if partB l m = true then 1 else 0) := by
  unfold spreadP
  rw [List.range_succ, List.filter_append, List.length_append]
  by_cases h : partB l m = true
  · simp [h]
  · simp [h]
theorem spread_heads {l : List Nat} (h : l.Pairwise (· < ·)) : spreadP l l.length = heads l := by
  have e : l = (List.range l.length).map fun i => l.getD i 0 := by
    refine List.ext_getElem (by simp) fun i h1 h2 => ?_
    simp [List.getD_eq_getElem?_getD, h1]
  have hmono : ∀ i j, i < j → j < l.length → l.getD i 0 < l.getD j 0 := fun i j hij hj => by
    have := List.pairwise_iff_getElem.1 h i j (by omega) hj hij
    simpa [List.getD_eq_getElem?_getD, hj, show i < l.length by omega] using this
  unfold heads spreadP
  conv => rhs; rw [e, List.filter_map, List.length_map]
  congr 1
  refine List.filter_congr fun i hi => ?_
  have hi := List.mem_range.1 hi
  simp only [Function.comp]
  rw [← e]
  unfold partB headB
  rw [Bool.eq_iff_iff, decide_eq_true_iff, decide_eq_true_iff]
  have hmem : ∀ x ∈ l, ∃ j, j < l.length ∧ l.getD j 0 = x := fun x hx => by
    obtain ⟨j, hj, e⟩ := List.mem_iff_getElem.1 hx
    exact ⟨j, hj, by simp [List.getD_eq_getElem?_getD, hj, e]⟩
  constructor
  · rintro (h0 | h0 | h0)
    · subst h0
      by_cases h8 : l.getD 0 0 % 8 = 0
      · exact .inl h8
      · refine .inr fun hm => ?_
        obtain ⟨j, hj, ej⟩ := hmem _ hm
        by_cases j0 : j = 0
        · subst j0; omega
        · have := hmono 0 j (by omega) hj; omega
    · by_cases h8 : l.getD i 0 % 8 = 0
      · exact .inl h8
      · refine .inr fun hm => ?_
        obtain ⟨j, hj, ej⟩ := hmem _ hm
        rcases Nat.lt_trichotomy j i with hl | hl | hl
        · by_cases e1 : j = i - 1
          · subst e1; omega
          · have := hmono j (i - 1) (by omega) (by omega)
            have := hmono (i - 1) i (by omega) hi
            omega
        · subst hl; omega
        · have := hmono i j hl hj; omega
    · exact .inl h0
  · rintro (h0 | h0)
    · exact .inr (.inr h0)
    · by_cases i0 : i = 0
      · exact .inl i0
      · refine .inr (.inl fun he => h0 ?_)
        rw [← he, Nat.add_sub_cancel, List.getD_eq_getElem?_getD, List.getElem?_eq_getElem (by omega)]
        exact List.getElem_mem _

theorem choose_pw {rs : List (Int × Int)} {c : Int} {tk : Nat → Bool} (n : Int) : (chooseP rs c tk n).Pairwise (· < ·) := by
  unfold chooseP
  split
  · next h =>
    obtain ⟨_, h2, _⟩ := search_ok rs c n.toNat n.toNat tk (Nat.le_refl _) (by omega)
    have h4 : (sortN (searchP rs c n.toNat tk n.toNat)).Pairwise fun a b => decide (a ≤ b) = true := List.pairwise_mergeSort (fun a b c => by simp; omega) (fun a b => by simp; omega) _
    have h5 := (sortN_perm (searchP rs c n.toNat tk n.toNat)).nodup_iff.2 h2
    refine (h4.and h5).imp fun {a b} h => ?_
    have : a ≤ b := by simpa using h.1
    have := h.2
    omega
  · exact List.Pairwise.nil
/-- The law of parts. -/
theorem fits_law {rs : List (Int × Int)} {c : Int} {tk : Nat → Bool} {n : Nat} (h1 : 1 ≤ n) (hn : n ≤ (free rs c tk).length) {g : Nat} (hg : (runs rs c tk).length ≤ g) :
    spreadP (chooseP rs c tk (n : Int)) (chooseP rs c tk (n : Int)).length = ndP g (lAll c tk rs 0 []) n := by
  rw [spread_heads (choose_pw _), lens_eq]
  have : chooseP rs c tk (n : Int) = sortN (searchP rs c n tk n) := by
    unfold chooseP
    rw [if_pos ⟨by omega, by omega⟩, Int.toNat_natCast]
  rw [this, heads_perm (sortN_perm _), search_heads rs c n n tk g h1 (Nat.le_refl _) hn hg]
end Go.Proofs.Ytjhgomacanffkaa
namespace Go.Proofs.Ytjhgomacanffkaa
open Go Sx Go.RowKit

theorem cW {a b : Int} (h : a = b) (h0 : -9223372036854775808 ≤ b) (h1 : b ≤ 9223372036854775807) : IV.int .i64 (IntKind.wrap .i64 a) = IV.int .i64 b := by
  subst h; rw [wrap64 h0 h1]
theorem cT {p : Prop} [Decidable p] (h : p) : IV.bool (decide p) = IV.bool true := by rw [decide_eq_true h]
theorem cF {p : Prop} [Decidable p] (h : ¬p) : IV.bool (decide p) = IV.bool false := by rw [decide_eq_false h]
theorem cD {p : Prop} [Decidable p] {t : Bool} (h : p ↔ t = true) : IV.bool (decide p) = IV.bool t := by
  cases t with
  | true => exact cT (h.2 rfl)
  | false => exact cF (fun e => by have := h.1 e; cases this)
theorem eT {a b : Int} (h : a = b) : IV.bool (a == b) = IV.bool true := by subst h; simp
theorem eF {a b : Int} (h : a ≠ b) : IV.bool (a == b) = IV.bool false := by simp [h]
theorem eD {a b : Int} {t : Bool} (h : a = b ↔ t = true) : IV.bool (a == b) = IV.bool t := by
  cases t with
  | true => exact eT (h.2 rfl)
  | false => exact eF (fun e => by have := h.1 e; cases this)
theorem nT {a b : Int} (h : a ≠ b) : IV.bool (a != b) = IV.bool true := by simp [h]
theorem nF {a b : Int} (h : a = b) : IV.bool (a != b) = IV.bool false := by subst h; simp
theorem lN {L : List Nat} {i v : Nat} {wr : Bool} (h : L[i]? = some v) : ldX (.cells (nints L) 3, wr) false 1 i = some (.int .i64 (v : Nat)) := by
  show (nints L)[i]? = _
  simp [nints, h]
theorem xN {q n i : Nat} (h : i < n) : indexAddrI tab 27 (slV q n) (.int .i64 (i : Nat)) = some (.ptr q i) := by
  rw [slV_pos (by omega), ix_sl t27d t3s h]; simp
end Go.Proofs.Ytjhgomacanffkaa
