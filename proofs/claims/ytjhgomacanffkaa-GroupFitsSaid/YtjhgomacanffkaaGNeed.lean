/- The law's own need and Spread as contracts, and their plain law. -/
import Derived.Test.YtjhgomacanffkaaGLaw
namespace Go.Proofs.Ytjhgomacanffkaa
open Go Sx Go.RowKit

/-! ### Which seats are free -/
theorem mem_rowS {i : Nat} {r : Int × Int} {a : Nat × Int} : ∀ {k p : Nat}, a ∈ rowS i r k p ↔ ∃ q, p ≤ q ∧ q < p + k ∧ bit r.2 q = true ∧ a = (8 * i + q, r.1)
  | 0, p => by simp [rowS]; intro q; omega
  | k + 1, p => by
    simp only [rowS, List.mem_append, mem_rowS (k := k)]
    constructor
    · rintro (h | ⟨q, h1, h2, h3⟩)
      · split at h
        · next hb => simp at h; exact ⟨p, Nat.le_refl _, by omega, hb, h⟩
        · simp at h
      · exact ⟨q, by omega, by omega, h3⟩
    · rintro ⟨q, h1, h2, h3, h4⟩
      by_cases e : q = p
      · subst e; left; rw [if_pos h3]; simp [h4]
      · exact .inr ⟨q, by omega, by omega, h3, h4⟩
theorem mem_allS {a : Nat × Int} : ∀ {rs : List (Int × Int)} {i : Nat}, a ∈ allS rs i ↔ ∃ j r q, rs[j]? = some r ∧ q < 8 ∧ bit r.2 q = true ∧ a = (8 * (i + j) + q, r.1)
  | [], i => by simp [allS]
  | r :: rs, i => by
    simp only [allS, List.mem_append, mem_rowS, mem_allS (rs := rs)]
    constructor
    · rintro (⟨q, _, h2, h3, h4⟩ | ⟨j, r', q, h1, h2, h3, h4⟩)
      · exact ⟨0, r, q, rfl, by omega, h3, by simpa using h4⟩
      · exact ⟨j + 1, r', q, by simpa using h1, h2, h3, by rw [h4]; congr 2; omega⟩
    · rintro ⟨j, r', q, h1, h2, h3, h4⟩
      cases j with
      | zero => simp at h1; subst h1; exact .inl ⟨q, by omega, by omega, h3, by simpa using h4⟩
      | succ j => exact .inr ⟨j, r', q, by simpa using h1, h2, h3, by rw [h4]; congr 2; omega⟩
theorem free_at {rs : List (Int × Int)} {c : Int} {tk : Nat → Bool} {i p : Nat} {r : Int × Int} (hr : rs[i]? = some r) (hp : p < 8) : 8 * i + p ∈ free rs c tk ↔ r.1 = c ∧ bit r.2 p = true ∧ tk (8 * i + p) = false := by
  rw [mem_free, mem_allS]
  constructor
  · rintro ⟨⟨j, r', q, h1, h2, h3, h4⟩, h5⟩
    simp only [Prod.mk.injEq] at h4
    obtain rfl : j = i := by omega
    obtain rfl : q = p := by omega
    rw [hr] at h1; cases h1
    exact ⟨h4.2.symm, h3, h5⟩
  · rintro ⟨h1, h2, h3⟩
    exact ⟨⟨i, r, p, hr, hp, h2, by rw [h1]; simp⟩, h3⟩
theorem free_out {rs : List (Int × Int)} {c : Int} {tk : Nat → Bool} {s : Nat} (h : s ∈ free rs c tk) : ∃ r, rs[s / 8]? = some r ∧ r.1 = c ∧ bit r.2 (s % 8) = true ∧ tk s = false := by
  obtain ⟨h1, h2⟩ := mem_free.1 h
  obtain ⟨j, r, q, h3, h4, h5, h6⟩ := mem_allS.1 h1
  simp only [Prod.mk.injEq] at h6
  have e1 : s / 8 = j := by omega
  have e2 : s % 8 = q := by omega
  exact ⟨r, by rw [e1]; exact h3, h6.2.symm, by rw [e2]; exact h5, h2⟩

/-! ### Runs of a list of seats -/
structure Good (F : List Nat) (r : Nat × Nat) : Prop where
  pos : 1 ≤ r.2
  row : r.1 % 8 + r.2 ≤ 8
  left : r.1 % 8 ≠ 0 → r.1 - 1 ∉ F
  right : (r.1 + r.2) % 8 ≠ 0 → r.1 + r.2 ∉ F
theorem runF_cons (r : Nat × Nat) (R : List (Nat × Nat)) : runF (r :: R) = takeP r.1 r.2 ++ runF R := by simp [runF]
theorem takeP_cons {a n : Nat} (h : 1 ≤ n) : ∃ l, takeP a n = a :: l := by
  obtain ⟨m, rfl⟩ : ∃ m, n = m + 1 := ⟨n - 1, by omega⟩
  exact ⟨(List.range m).map fun k => a + (k + 1), by simp [takeP, List.range_succ_eq_map]⟩
theorem good_unique {F : List Nat} : ∀ R R' : List (Nat × Nat), (∀ r ∈ R, Good F r) → (∀ r ∈ R', Good F r) → runF R = runF R' → (∀ s ∈ runF R, s ∈ F) → R = R'
  | [], [], _, _, _, _ => rfl
  | [], r :: R', _, h', he, _ => by
    obtain ⟨l, hl⟩ := takeP_cons (a := r.1) (h' r (List.mem_cons_self ..)).pos
    rw [runF_cons, hl] at he
    simp [runF] at he
  | r :: R, [], h, _, he, _ => by
    obtain ⟨l, hl⟩ := takeP_cons (a := r.1) (h r (List.mem_cons_self ..)).pos
    rw [runF_cons, hl] at he
    simp [runF] at he
  | r :: R, r' :: R', h, h', he, hF => by
    have g := h r (List.mem_cons_self ..)
    have g' := h' r' (List.mem_cons_self ..)
    have e1 : r.1 = r'.1 := by
      obtain ⟨l, hl⟩ := takeP_cons (a := r.1) g.pos
      obtain ⟨l', hl'⟩ := takeP_cons (a := r'.1) g'.pos
      rw [runF_cons, runF_cons, hl, hl'] at he
      simpa using (List.cons.inj he).1
    have e2 : r.2 = r'.2 := by
      have p1 := g.pos
      have p2 := g'.pos
      have r1 := g.row
      have r2 := g'.row
      rcases Nat.lt_trichotomy r.2 r'.2 with hl | hl | hl
      · exfalso
        refine g.right (by rw [e1]; omega) (hF _ ?_)
        rw [he, runF_cons, List.mem_append]
        exact .inl (mem_takeP.2 ⟨by omega, by omega⟩)
      · exact hl
      · exfalso
        refine g'.right (by omega) (hF _ ?_)
        rw [runF_cons, List.mem_append]
        exact .inl (mem_takeP.2 ⟨by omega, by omega⟩)
    obtain rfl : r = r' := Prod.ext e1 e2
    rw [runF_cons, runF_cons] at he
    have he := List.append_cancel_left he
    rw [good_unique R R' (fun q hq => h q (List.mem_cons_of_mem _ hq)) (fun q hq => h' q (List.mem_cons_of_mem _ hq)) he fun s hs => hF s (by rw [runF_cons]; exact List.mem_append_right _ hs)]

/-! ### The code's runs -/
def fl (c : Int) (tk : Nat → Bool) (d : List (Nat × Int)) : List Nat := (d.filter fun a => decide (a.2 = c ∧ tk a.1 = false)).map fun a => a.1
theorem fl_append (c : Int) (tk : Nat → Bool) (d e : List (Nat × Int)) : fl c tk (d ++ e) = fl c tk d ++ fl c tk e := by simp [fl]
theorem mem_fl {c : Int} {tk : Nat → Bool} {d : List (Nat × Int)} {x : Nat} (h : x ∈ fl c tk d) : ∃ a ∈ d, a.1 = x := by
  simp only [fl, List.mem_map, List.mem_filter] at h
  obtain ⟨a, h1, h2⟩ := h
  exact ⟨a, h1.1, h2⟩
theorem fl_yes {c : Int} {tk : Nat → Bool} {a : Nat × Int} (h : a.2 = c ∧ tk a.1 = false) : fl c tk [a] = [a.1] := by simp [fl, h]
theorem fl_no {c : Int} {tk : Nat → Bool} {a : Nat × Int} (h : ¬(a.2 = c ∧ tk a.1 = false)) : fl c tk [a] = [] := by
  unfold fl
  rw [List.filter_cons_of_neg (by simpa using h)]; rfl

structure RInv (F : List Nat) (c : Int) (tk : Nat → Bool) (d : List (Nat × Int)) (st : RSt) : Prop where
  cl : ∀ r ∈ st.1, Good F r
  no : st.2 = none → fl c tk d = []
  cur : ∀ b n, st.2 = some (b, n) → 1 ≤ n ∧ b % 8 + n ≤ 8 ∧ (b % 8 ≠ 0 → b - 1 ∉ F) ∧ b + n - 1 ∈ fl c tk d ∧ ∀ x ∈ fl c tk d, x < b + n
theorem rinv_step {c : Int} {tk : Nat → Bool} {d e : List (Nat × Int)} {a : Nat × Int} {st : RSt} (hp : (d ++ a :: e).Pairwise fun a b => a.1 < b.1) (j : RInv (fl c tk (d ++ a :: e)) c tk d st) :
    RInv (fl c tk (d ++ a :: e)) c tk (d ++ [a]) (rstep c tk st a) := by
  have hF : ∀ x ∈ fl c tk (d ++ a :: e), x ∈ fl c tk d ∨ x = a.1 ∨ a.1 < x := by
    intro x hx
    rw [fl_append] at hx
    rcases List.mem_append.1 hx with hx | hx
    · exact .inl hx
    · obtain ⟨b, hb, rfl⟩ := mem_fl hx
      rcases List.mem_cons.1 hb with rfl | hb
      · exact .inr (.inl rfl)
      · exact .inr (.inr ((List.pairwise_cons.1 (List.pairwise_append.1 hp).2.1).1 b hb))
  have hd : ∀ x ∈ fl c tk d, x < a.1 := by
    intro x hx
    obtain ⟨b, hb, rfl⟩ := mem_fl hx
    exact (List.pairwise_append.1 hp).2.2 b hb a (List.mem_cons_self ..)
  generalize fl c tk (d ++ a :: e) = F at *
  obtain ⟨l, cur⟩ := st
  unfold rstep
  by_cases hs : a.2 = c ∧ tk a.1 = false
  · rw [if_pos hs]
    cases cur with
    | none =>
      have h0 := j.no rfl
      refine ⟨j.cl, by simp, fun b n hbn => ?_⟩
      simp only [Option.some.injEq, Prod.mk.injEq] at hbn
      obtain ⟨rfl, rfl⟩ := hbn
      rw [fl_append, h0, fl_yes hs]
      refine ⟨Nat.le_refl _, by omega, fun h8 hm => ?_, by simp, by simp⟩
      rcases hF _ hm with h | h | h
      · rw [h0] at h; cases h
      · omega
      · omega
    | some q =>
      obtain ⟨b, n⟩ := q
      obtain ⟨h1, h2, h3, h4, h5⟩ := j.cur b n rfl
      have h6 := hd _ h4
      simp only
      by_cases hy : a.1 = b + n ∧ a.1 % 8 ≠ 0
      · rw [if_pos hy]
        refine ⟨j.cl, by simp, fun b' n' hbn => ?_⟩
        simp only [Option.some.injEq, Prod.mk.injEq] at hbn
        obtain ⟨rfl, rfl⟩ := hbn
        rw [fl_append, fl_yes hs]
        refine ⟨by omega, by omega, h3, by rw [List.mem_append]; right; simp; omega, fun x hx => ?_⟩
        rcases List.mem_append.1 hx with hx | hx
        · have := h5 x hx; omega
        · simp at hx; omega
      · rw [if_neg hy]
        refine ⟨fun r hr => ?_, by simp, fun b' n' hbn => ?_⟩
        · rcases List.mem_append.1 hr with hr | hr
          · exact j.cl r hr
          · simp at hr; subst hr
            refine ⟨h1, h2, h3, fun h8 hm => ?_⟩
            simp only at h8 hm
            rcases hF _ hm with h | h | h
            · have := h5 _ h; omega
            · exact hy ⟨h.symm, by omega⟩
            · omega
        · simp only [Option.some.injEq, Prod.mk.injEq] at hbn
          obtain ⟨rfl, rfl⟩ := hbn
          rw [fl_append, fl_yes hs]
          refine ⟨Nat.le_refl _, by omega, fun h8 hm => ?_, by simp, fun x hx => ?_⟩
          · rcases hF _ hm with h | h | h
            · have := h5 _ h
              exact hy ⟨by omega, h8⟩
            · omega
            · omega
          · rcases List.mem_append.1 hx with hx | hx
            · have := hd x hx; omega
            · simp at hx; omega
  · rw [if_neg hs]
    refine ⟨j.cl, fun h => by rw [fl_append, j.no h, fl_no hs]; rfl, fun b n hbn => ?_⟩
    rw [fl_append, fl_no hs, List.append_nil]
    exact j.cur b n hbn
theorem rinv_all {c : Int} {tk : Nat → Bool} {S : List (Nat × Int)} (hp : S.Pairwise fun a b => a.1 < b.1) : ∀ (e d : List (Nat × Int)) (st : RSt), d ++ e = S → RInv (fl c tk S) c tk d st → RInv (fl c tk S) c tk S (e.foldl (rstep c tk) st)
  | [], d, st, h, j => by rw [List.append_nil] at h; subst h; exact j
  | a :: e, d, st, h, j => by
    rw [List.foldl_cons]
    refine rinv_all hp e (d ++ [a]) _ (by rw [← h]; simp) ?_
    subst h
    exact rinv_step hp j
theorem runs_good (rs : List (Int × Int)) (c : Int) (tk : Nat → Bool) : ∀ r ∈ runs rs c tk, Good (free rs c tk) r := by
  have j := rinv_all (c := c) (tk := tk) (allS_pw rs 0) (allS rs 0) [] ([], none) rfl ⟨by simp, fun _ => rfl, by simp⟩
  intro r hr
  unfold runs runL runsSt at hr
  rcases List.mem_append.1 hr with hr | hr
  · exact j.cl r hr
  · obtain ⟨b, n⟩ := r
    have hb : ((allS rs 0).foldl (rstep c tk) ([], none)).2 = some (b, n) := by simpa using hr
    obtain ⟨h1, h2, h3, _, h5⟩ := j.cur b n hb
    exact ⟨h1, h2, h3, fun _ hm => by have := h5 _ hm; simp only at this; omega⟩

/-! ### lengths are the runs' -/
def lstep2 (q : Nat) (sel : Bool) (st : List (Nat × Nat) × Nat) : List (Nat × Nat) × Nat := bif sel then (st.1, st.2 + 1) else (bif decide (0 < st.2) then (st.1 ++ [(q - st.2, st.2)], 0) else (st.1, 0))
def lRow2 (c : Int) (tk : Nat → Bool) (i : Nat) (r : Int × Int) : Nat → Nat → List (Nat × Nat) × Nat → List (Nat × Nat) × Nat
  | 0, _, st => st
  | m + 1, p, st => lRow2 c tk i r m (p + 1) (lstep2 (8 * i + p) (selAt c tk i r p) st)
def lAll2 (c : Int) (tk : Nat → Bool) : List (Int × Int) → Nat → List (Nat × Nat) → List (Nat × Nat)
  | [], _, out => out
  | r :: rs, i, out => lAll2 c tk rs (i + 1) (lRow2 c tk i r 9 0 (out, 0)).1
theorem lRow2_map (c : Int) (tk : Nat → Bool) (i : Nat) (r : Int × Int) : ∀ (m p : Nat) (st : List (Nat × Nat) × Nat), ((lRow2 c tk i r m p st).1.map (·.2), (lRow2 c tk i r m p st).2) = lRow c tk i r m p (st.1.map (·.2), st.2)
  | 0, _, _ => rfl
  | m + 1, p, st => by
    simp only [lRow2, lRow]
    rw [lRow2_map c tk i r m]
    congr 1
    unfold lstep2 lstep
    cases selAt c tk i r p with
    | true => rfl
    | false => cases h : decide (0 < st.2) <;> simp
theorem lAll2_map (c : Int) (tk : Nat → Bool) : ∀ (rs : List (Int × Int)) (i : Nat) (out : List (Nat × Nat)), (lAll2 c tk rs i out).map (·.2) = lAll c tk rs i (out.map (·.2))
  | [], _, _ => rfl
  | r :: rs, i, out => by
    simp only [lAll2, lAll]
    rw [lAll2_map c tk rs]
    congr 1
    exact congrArg Prod.fst (lRow2_map c tk i r 9 0 (out, 0))

def flat2 (q : Nat) (st : List (Nat × Nat) × Nat) : List Nat := runF st.1 ++ takeP (q - st.2) st.2
theorem lstep2_flat {q : Nat} {sel : Bool} {st : List (Nat × Nat) × Nat} (h : st.2 ≤ q) : flat2 (q + 1) (lstep2 q sel st) = flat2 q st ++ (if sel = true then [q] else []) := by
  obtain ⟨l, k⟩ := st
  simp only at h
  unfold lstep2 flat2
  cases sel with
  | true =>
    simp only [cond_true, if_true, takeP_succ, List.append_assoc, show q + 1 - (k + 1) = q - k by omega, show q - k + k = q by omega]
  | false =>
    cases hk : decide (0 < k) with
    | true => simp [runF, takeP]
    | false =>
      have : k = 0 := by simpa using hk
      subst this
      simp [takeP]
structure LInv (F : List Nat) (i p : Nat) (st : List (Nat × Nat) × Nat) : Prop where
  cl : ∀ r ∈ st.1, Good F r
  le : st.2 ≤ p
  lt : st.2 < p → 8 * i + p - st.2 - 1 ∉ F
theorem lstep2_good {F : List Nat} {i p : Nat} {st : List (Nat × Nat) × Nat} (hp : p ≤ 8) (j : LInv F i p st) {sel : Bool} (hs : sel = true ↔ p < 8 ∧ 8 * i + p ∈ F) : (∀ r ∈ (lstep2 (8 * i + p) sel st).1, Good F r) ∧ (p < 8 → LInv F i (p + 1) (lstep2 (8 * i + p) sel st)) := by
  obtain ⟨l, k⟩ := st
  obtain ⟨h1, h2, h3⟩ := j
  simp only at h1 h2 h3
  unfold lstep2
  cases sel with
  | true =>
    simp only [cond_true]
    exact ⟨h1, fun h8 => ⟨h1, by simp only; omega, fun h => by simp only at h ⊢; have := h3 (by omega); rwa [show 8 * i + (p + 1) - (k + 1) - 1 = 8 * i + p - k - 1 by omega]⟩⟩
  | false =>
    have hn : p < 8 → 8 * i + p ∉ F := fun h8 hm => by have := hs.2 ⟨h8, hm⟩; cases this
    cases hk : decide (0 < k) with
    | true =>
      have hk : 0 < k := by simpa using hk
      have hg : ∀ r ∈ l ++ [(8 * i + p - k, k)], Good F r := by
        intro r hr
        rcases List.mem_append.1 hr with hr | hr
        · exact h1 r hr
        · simp at hr; subst hr
          refine ⟨hk, by simp only; omega, fun h8 => ?_, fun h8 => ?_⟩
          · simp only at h8 ⊢
            exact h3 (by omega)
          · simp only at h8 ⊢
            rw [show 8 * i + p - k + k = 8 * i + p by omega] at h8 ⊢
            exact hn (by omega)
      simp only [cond_true, cond_false]
      exact ⟨hg, fun h8 => ⟨hg, by simp only; omega, fun _ => by simp only; rw [show 8 * i + (p + 1) - 0 - 1 = 8 * i + p by omega]; exact hn h8⟩⟩
    | false =>
      simp only [cond_false]
      exact ⟨h1, fun h8 => ⟨h1, by simp only; omega, fun _ => by simp only; rw [show 8 * i + (p + 1) - 0 - 1 = 8 * i + p by omega]; exact hn h8⟩⟩
theorem lRow2_ok {F : List Nat} {c : Int} {tk : Nat → Bool} {i : Nat} {r : Int × Int} (hF : ∀ p, selAt c tk i r p = true ↔ p < 8 ∧ 8 * i + p ∈ F) : ∀ (m p : Nat) (st : List (Nat × Nat) × Nat), m + p = 8 → LInv F i p st →
    (∀ q ∈ (lRow2 c tk i r (m + 1) p st).1, Good F q) ∧ runF (lRow2 c tk i r (m + 1) p st).1 = flat2 (8 * i + p) st ++ fl c tk (rowS i r m p)
  | 0, p, st, h, j => by
    have hs : selAt c tk i r p = false := by
      cases hh : selAt c tk i r p with
      | false => rfl
      | true => have := (hF p).1 hh; omega
    have hg := (lstep2_good (by omega) j (hF p)).1
    have hfl := lstep2_flat (q := 8 * i + p) (sel := selAt c tk i r p) (st := st) (by have := j.le; omega)
    simp only [lRow2]
    refine ⟨hg, ?_⟩
    rw [hs] at hfl ⊢
    simp only [rowS, fl, List.filter_nil, List.map_nil, List.append_nil]
    have h0 : (lstep2 (8 * i + p) false st).2 = 0 := by unfold lstep2; cases decide (0 < st.2) <;> rfl
    unfold flat2 at hfl
    rw [h0] at hfl
    simpa [takeP, flat2] using hfl
  | m + 1, p, st, h, j => by
    obtain ⟨h1, h2⟩ := lRow2_ok hF m (p + 1) (lstep2 (8 * i + p) (selAt c tk i r p) st) (by omega) ((lstep2_good (by omega) j (hF p)).2 (by omega))
    refine ⟨h1, ?_⟩
    show runF (lRow2 c tk i r (m + 1) (p + 1) (lstep2 (8 * i + p) (selAt c tk i r p) st)).1 = _
    rw [h2, rowS, fl_append, ← List.append_assoc, ← Nat.add_assoc, lstep2_flat (by have := j.le; omega)]
    congr 2
    by_cases hb : bit r.2 p = true
    · rw [if_pos hb]
      by_cases hs : r.1 = c ∧ tk (8 * i + p) = false
      · rw [if_pos ((selAt_iff c tk i r p).2 ⟨by omega, hs.1, hb, hs.2⟩), fl_yes (by exact hs)]
      · rw [if_neg (fun e => by have := (selAt_iff c tk i r p).1 e; exact hs ⟨this.2.1, this.2.2.2⟩), fl_no (by exact hs)]
    · rw [if_neg hb, if_neg (fun e => hb ((selAt_iff c tk i r p).1 e).2.2.1)]
      rfl
theorem lAll2_ok {F : List Nat} {c : Int} {tk : Nat → Bool} : ∀ (rs : List (Int × Int)) (i : Nat) (out : List (Nat × Nat)), (∀ j r p, rs[j]? = some r → (selAt c tk (i + j) r p = true ↔ p < 8 ∧ 8 * (i + j) + p ∈ F)) → (∀ r ∈ out, Good F r) →
    (∀ r ∈ lAll2 c tk rs i out, Good F r) ∧ runF (lAll2 c tk rs i out) = runF out ++ fl c tk (allS rs i)
  | [], i, out, _, h => ⟨h, by simp [lAll2, allS, fl]⟩
  | r :: rs, i, out, hF, h => by
    obtain ⟨h1, h2⟩ := lRow2_ok (F := F) (c := c) (tk := tk) (i := i) (r := r) (fun p => hF 0 r p rfl) 8 0 (out, 0) rfl ⟨h, by simp, fun h => by simp at h⟩
    obtain ⟨h3, h4⟩ := lAll2_ok rs (i + 1) _ (fun j r p hj => by have := hF (j + 1) r p (by simpa using hj); rwa [show i + (j + 1) = i + 1 + j by omega] at this) h1
    refine ⟨h3, ?_⟩
    simp only [lAll2, allS]
    rw [h4, h2, fl_append, List.append_assoc]
    simp [flat2, takeP]
theorem lens_eq (c : Int) (tk : Nat → Bool) (rs : List (Int × Int)) : lAll c tk rs 0 [] = (runs rs c tk).map (·.2) := by
  obtain ⟨h1, h2⟩ := lAll2_ok (F := free rs c tk) (c := c) (tk := tk) rs 0 [] (fun j r p hj => by
    rw [selAt_iff, Nat.zero_add]
    constructor
    · rintro ⟨h8, h⟩; exact ⟨h8, (free_at hj h8).2 h⟩
    · rintro ⟨h8, h⟩; exact ⟨h8, (free_at hj h8).1 h⟩) (by simp)
  have he : lAll2 c tk rs 0 [] = runs rs c tk := good_unique _ _ h1 (runs_good rs c tk) (by rw [h2, runs_flat]; simp [runF, fl, free]) (fun s hs => by rw [h2] at hs; simpa [runF, fl, free] using hs)
  rw [← he, lAll2_map]; rfl

/-! ### One run less -/
theorem eraseIdx_split {α : Type} {R : List α} {i : Nat} {r : α} (h : R[i]? = some r) : R = R.take i ++ r :: R.drop (i + 1) ∧ R.eraseIdx i = R.take i ++ R.drop (i + 1) := by
  have hlt := (List.getElem?_eq_some_iff.1 h).1
  refine ⟨?_, List.eraseIdx_eq_take_drop_succ ..⟩
  rw [List.getElem?_eq_getElem hlt] at h
  cases h
  simp
theorem runs_mark {rs : List (Int × Int)} {c : Int} {tk : Nat → Bool} {i : Nat} {r : Nat × Nat} (h : (runs rs c tk)[i]? = some r) : runs rs c (mark tk (takeP r.1 r.2)) = (runs rs c tk).eraseIdx i := by
  obtain ⟨h1, h2⟩ := eraseIdx_split h
  have hF := runs_flat rs c tk
  have hn := free_nodup rs c tk
  have hm := free_mark rs c tk (takeP r.1 r.2)
  have hsub : ∀ s ∈ free rs c (mark tk (takeP r.1 r.2)), s ∈ free rs c tk := fun s hs => by rw [hm] at hs; exact (List.mem_filter.1 hs).1
  have he : runF ((runs rs c tk).eraseIdx i) = free rs c (mark tk (takeP r.1 r.2)) := by
    rw [h1, runF_append, runF_cons] at hF
    rw [h2, runF_append, hm, ← hF]
    rw [← hF] at hn
    generalize runF ((runs rs c tk).take i) = a at *
    generalize runF ((runs rs c tk).drop (i + 1)) = b at *
    have hn1 := List.nodup_append.1 hn
    have hn2 := List.nodup_append.1 hn1.2.1
    rw [List.filter_append, List.filter_append]
    have fa : (a.filter fun s => !decide (s ∈ takeP r.1 r.2)) = a := List.filter_eq_self.2 fun s hs => by
      simp only [Bool.not_eq_true', decide_eq_false_iff_not]
      exact fun hm => hn1.2.2 s hs s (List.mem_append_left _ hm) rfl
    have fb : (b.filter fun s => !decide (s ∈ takeP r.1 r.2)) = b := List.filter_eq_self.2 fun s hs => by
      simp only [Bool.not_eq_true', decide_eq_false_iff_not]
      exact fun hm => hn2.2.2 s hm s hs rfl
    have ft : ((takeP r.1 r.2).filter fun s => !decide (s ∈ takeP r.1 r.2)) = [] := List.filter_eq_nil_iff.2 fun s hs => by simp [hs]
    rw [fa, fb, ft, List.nil_append]
  refine good_unique (F := free rs c (mark tk (takeP r.1 r.2))) _ _ (runs_good rs c _) (fun q hq => ?_) (by rw [runs_flat, he]) (fun s hs => by rwa [runs_flat] at hs)
  have g := runs_good rs c tk q (List.mem_of_mem_eraseIdx hq)
  exact ⟨g.pos, g.row, fun h8 hm => g.left h8 (hsub _ hm), fun h8 hm => g.right h8 (hsub _ hm)⟩

/-! ### The longest one -/
def atI (L : List Nat) : Nat → Nat
  | 0 => 0
  | i + 1 => if L.getD (atI L i) 0 < L.getD (i + 1) 0 then i + 1 else atI L i
def atP (L : List Nat) : Nat := atI L (L.length - 1)
theorem atI_le (L : List Nat) : ∀ i, atI L i ≤ i
  | 0 => Nat.le_refl _
  | i + 1 => by
    have := atI_le L i
    unfold atI
    split <;> omega
theorem atI_max (L : List Nat) : ∀ i j, j ≤ i → L.getD j 0 ≤ L.getD (atI L i) 0
  | 0, j, h => by obtain rfl : j = 0 := by omega
                  exact Nat.le_refl _
  | i + 1, j, h => by
    have h1 := fun k hk => atI_max L i k hk
    unfold atI
    split
    · next hlt =>
      by_cases e : j = i + 1
      · subst e; exact Nat.le_refl _
      · have := h1 j (by omega); omega
    · next hge =>
      by_cases e : j = i + 1
      · subst e; omega
      · exact h1 j (by omega)
theorem long_at (R : List (Nat × Nat)) : ∀ i, i < R.length → (R.take (i + 1)).foldl (bestP (fun _ => true) fun x y => decide (y.2 < x.2)) none = R[atI (R.map (·.2)) i]?
  | 0, h => by
    obtain ⟨x, R', rfl⟩ : ∃ x R', R = x :: R' := by
      cases R with
      | nil => simp at h
      | cons x R' => exact ⟨x, R', rfl⟩
    rfl
  | i + 1, h => by
    have ih := long_at R i (by omega)
    have hle := atI_le (R.map (·.2)) i
    obtain ⟨x, hx⟩ : ∃ x, R[i + 1]? = some x := ⟨R[i + 1], by simp [h]⟩
    obtain ⟨y, hy⟩ : ∃ y, R[atI (R.map (·.2)) i]? = some y := ⟨R[atI (R.map (·.2)) i], by simp⟩
    have gx : (R.map (·.2)).getD (i + 1) 0 = x.2 := by simp [List.getD_eq_getElem?_getD, hx]
    have gy : (R.map (·.2)).getD (atI (R.map (·.2)) i) 0 = y.2 := by simp [List.getD_eq_getElem?_getD, hy]
    rw [List.take_add_one, hx, Option.toList_some, List.foldl_append, ih, hy]
    simp only [List.foldl_cons, List.foldl_nil, bestP, if_true, atI]
    rw [gx, gy]
    by_cases hlt : y.2 < x.2
    · rw [if_pos hlt, hx]; simp [hlt]
    · rw [if_neg hlt, hy]; simp [hlt]
theorem longP_at {R : List (Nat × Nat)} (h : R ≠ []) : longP R = R[atP (R.map (·.2))]? := by
  have hl : 0 < R.length := List.length_pos_iff.2 h
  have := long_at R (R.length - 1) (by omega)
  rw [show R.length - 1 + 1 = R.length by omega, List.take_length] at this
  unfold longP atP
  rw [this, List.length_map]

/-- How many of the longest ones have n together. -/
def ndP : Nat → List Nat → Nat → Nat
  | 0, _, _ => 0
  | f + 1, L, n => if n = 0 ∨ L = [] then 0 else 1 + ndP f (L.eraseIdx (atP L)) (n - L.getD (atP L) 0)

/-! ### Parts -/
def headB (l : List Nat) (s : Nat) : Bool := decide (s % 8 = 0 ∨ s - 1 ∉ l)
def heads (l : List Nat) : Nat := (l.filter (headB l)).length
theorem heads_perm {l l' : List Nat} (h : l.Perm l') : heads l = heads l' := by
  unfold heads
  have : headB l = headB l' := by
    funext s
    unfold headB
    rw [Bool.eq_iff_iff, decide_eq_true_iff, decide_eq_true_iff, h.mem_iff]
  rw [this]
  exact (h.filter _).length_eq
theorem heads_run {a n : Nat} {l : List Nat} (hn : 1 ≤ n) (hr : a % 8 + n ≤ 8) (h1 : a % 8 ≠ 0 → a - 1 ∉ l) (h2 : ∀ s ∈ l, s % 8 ≠ 0 → s ≠ a + n) (h3 : ∀ s ∈ l, s ∉ takeP a n) : heads (takeP a n ++ l) = 1 + heads l := by
  unfold heads
  rw [List.filter_append, List.length_append]
  congr 1
  · have : (takeP a n).filter (headB (takeP a n ++ l)) = [a] := by
      obtain ⟨m, rfl⟩ : ∃ m, n = m + 1 := ⟨n - 1, by omega⟩
      have e : takeP a (m + 1) = a :: takeP (a + 1) m := by
        simp only [takeP, List.range_succ_eq_map, List.map_cons, List.map_map, Nat.add_zero]
        congr 1
        refine List.map_congr_left fun k _ => ?_
        simp only [Function.comp]; omega
      rw [e, List.filter_cons_of_pos, List.filter_eq_nil_iff.2]
      · intro s hs
        have := mem_takeP.1 hs
        unfold headB
        simp only [decide_eq_true_eq, not_or, Classical.not_not]
        refine ⟨by omega, List.mem_append_left _ ?_⟩
        rw [← e]
        exact mem_takeP.2 ⟨by omega, by omega⟩
      · unfold headB
        simp only [decide_eq_true_eq]
        by_cases h8 : a % 8 = 0
        · exact .inl h8
        · refine .inr fun hm => ?_
          rcases List.mem_append.1 hm with hm | hm
          · rw [← e] at hm
            have := mem_takeP.1 hm; omega
          · exact h1 h8 hm
    rw [this]; rfl
  · congr 1
    refine List.filter_congr fun s hs => ?_
    unfold headB
    rw [Bool.eq_iff_iff, decide_eq_true_iff, decide_eq_true_iff, List.mem_append, not_or]
    constructor
    · rintro (h | h)
      · exact .inl h
      · exact .inr h.2
    · rintro (h | h)
      · exact .inl h
      · by_cases h8 : s % 8 = 0
        · exact .inl h8
        · refine .inr ⟨fun hm => ?_, h⟩
          have hm := mem_takeP.1 hm
          have hns := h3 s hs
          rw [mem_takeP] at hns
          exact h2 s hs h8 (by omega)
theorem heads_one {a n : Nat} (hn : 1 ≤ n) (hr : a % 8 + n ≤ 8) : heads (takeP a n) = 1 := by
  have := heads_run (l := []) hn hr (by simp) (by simp) (by simp)
  rw [List.append_nil] at this
  rw [this]; rfl

theorem search_heads (rs : List (Int × Int)) (c : Int) : ∀ (f n : Nat) (tk : Nat → Bool) (g : Nat), 1 ≤ n → n ≤ f → n ≤ (free rs c tk).length → (runs rs c tk).length ≤ g → heads (searchP rs c f tk n) = ndP g ((runs rs c tk).map (·.2)) n
  | 0, n, tk, g, h1, hf, _, _ => by omega
  | f + 1, n, tk, g, h1, hf, hn, hg => by
    have hfl := runs_flat rs c tk
    have hne : runs rs c tk ≠ [] := by
      intro he
      rw [he] at hfl
      rw [← hfl] at hn
      simp [runF] at hn
      omega
    have hpos : 0 < (runs rs c tk).length := List.length_pos_iff.2 hne
    obtain ⟨g, rfl⟩ : ∃ m, g = m + 1 := ⟨g - 1, by omega⟩
    have hat : atP ((runs rs c tk).map (·.2)) < (runs rs c tk).length := by
      have := atI_le ((runs rs c tk).map (·.2)) (((runs rs c tk).map (·.2)).length - 1)
      unfold atP
      rw [List.length_map] at this ⊢
      omega
    obtain ⟨r0, hr0⟩ : ∃ r, (runs rs c tk)[atP ((runs rs c tk).map (·.2))]? = some r := ⟨_, List.getElem?_eq_getElem hat⟩
    have hv : ((runs rs c tk).map (·.2)).getD (atP ((runs rs c tk).map (·.2))) 0 = r0.2 := by simp [List.getD_eq_getElem?_getD, hr0]
    have hnd : ndP (g + 1) ((runs rs c tk).map (·.2)) n = 1 + ndP g (((runs rs c tk).eraseIdx (atP ((runs rs c tk).map (·.2)))).map (·.2)) (n - r0.2) := by
      rw [ndP, if_neg (by rw [List.map_eq_nil_iff]; exact fun h => h.elim (by omega) hne), hv]
      congr 2
      rw [List.eraseIdx_eq_take_drop_succ, List.eraseIdx_eq_take_drop_succ, List.map_append, List.map_take, List.map_drop]
    rw [hnd]
    unfold searchP
    cases hfit : fitP (runs rs c tk) n with
    | some r =>
      obtain ⟨hm, hle⟩ := fit_some hfit
      have gr := runs_good rs c tk r hm
      have r1 := gr.row
      simp only
      rw [heads_one h1 (by omega)]
      obtain ⟨j, hj, hjr⟩ := List.mem_iff_getElem.1 hm
      have hmax := atI_max ((runs rs c tk).map (·.2)) (((runs rs c tk).map (·.2)).length - 1) j (by rw [List.length_map]; omega)
      have hjd : ((runs rs c tk).map (·.2)).getD j 0 = r.2 := by simp [List.getD_eq_getElem?_getD, hj, hjr]
      rw [hjd] at hmax
      have hv' : ((runs rs c tk).map (·.2)).getD (atI ((runs rs c tk).map (·.2)) (((runs rs c tk).map (·.2)).length - 1)) 0 = r0.2 := hv
      rw [hv'] at hmax
      rw [show n - r0.2 = 0 by omega]
      cases g with
      | zero => rfl
      | succ g => rw [ndP, if_pos (.inl rfl)]
    | none =>
      have hlt := fit_none hfit
      simp only
      rw [longP_at hne, hr0]
      simp only
      have hm : r0 ∈ runs rs c tk := List.mem_of_getElem? hr0
      have gr := runs_good rs c tk r0 hm
      have hr := hlt r0 hm
      have hl := free_mark_run hm
      have hrm := runs_mark hr0
      have hp := gr.pos
      have hin := (search_ok rs c f (n - r0.2) (mark tk (takeP r0.1 r0.2)) (by omega) (by omega)).2.2
      have hin' : ∀ s ∈ searchP rs c f (mark tk (takeP r0.1 r0.2)) (n - r0.2), s ∈ free rs c tk ∧ s ∉ takeP r0.1 r0.2 := fun s hs => by
        have := hin s hs
        rw [free_mark, List.mem_filter] at this
        exact ⟨this.1, by simpa using this.2⟩
      rw [heads_run gr.pos gr.row (fun h8 hm => gr.left h8 (hin' _ hm).1) (fun s hs h8 e => gr.right (by rw [← e]; exact h8) (by rw [← e]; exact (hin' s hs).1)) (fun s hs => (hin' s hs).2)]
      rw [search_heads rs c f (n - r0.2) (mark tk (takeP r0.1 r0.2)) g (by omega) (by omega) (by omega) (by rw [hrm, List.length_eraseIdx]; split <;> omega), hrm]

/-- Into how many parts a list falls, as the code counts. -/
def partB (l : List Nat) (i : Nat) : Bool := decide (i = 0 ∨ l.getD (i - 1) 0 + 1 ≠ l.getD i 0 ∨ l.getD i 0 % 8 = 0)
def spreadP (l : List Nat) (m : Nat) : Nat := ((List.range m).filter (partB l)).length
theorem spread_succ (l : List Nat) (m : Nat) : spreadP l (m + 1) = spreadP l m + (if partB l m = true then 1 else 0) := by
  unfold spreadP
  rw [List.range_succ, List.filter_append, List.length_append]
  by_cases h : partB l m = true
  · simp [h]
  · simp [h]
theorem spread_heads {l : List Nat} (h : l.Pairwise (· < ·)) : spreadP l l.length = heads l := by
  have e : l = (List.range l.length).map fun i => l.getD i 0 := by
    refine List.ext_getElem (by simp) fun i h1 h2 => ?_
    simp [List.getD_eq_getElem?_getD, h1]
  have hmono : ∀ i j, i < j → j < l.length → l.getD i 0 < l.getD j 0 := fun i j hij hj => by
    have := List.pairwise_iff_getElem.1 h i j (by omega) hj hij
    simpa [List.getD_eq_getElem?_getD, hj, show i < l.length by omega] using this
  unfold heads spreadP
  conv => rhs; rw [e, List.filter_map, List.length_map]
  congr 1
  refine List.filter_congr fun i hi => ?_
  have hi := List.mem_range.1 hi
  simp only [Function.comp]
  rw [← e]
  unfold partB headB
  rw [Bool.eq_iff_iff, decide_eq_true_iff, decide_eq_true_iff]
  have hmem : ∀ x ∈ l, ∃ j, j < l.length ∧ l.getD j 0 = x := fun x hx => by
    obtain ⟨j, hj, e⟩ := List.mem_iff_getElem.1 hx
    exact ⟨j, hj, by simp [List.getD_eq_getElem?_getD, hj, e]⟩
  constructor
  · rintro (h0 | h0 | h0)
    · subst h0
      by_cases h8 : l.getD 0 0 % 8 = 0
      · exact .inl h8
      · refine .inr fun hm => ?_
        obtain ⟨j, hj, ej⟩ := hmem _ hm
        by_cases j0 : j = 0
        · subst j0; omega
        · have := hmono 0 j (by omega) hj; omega
    · by_cases h8 : l.getD i 0 % 8 = 0
      · exact .inl h8
      · refine .inr fun hm => ?_
        obtain ⟨j, hj, ej⟩ := hmem _ hm
        rcases Nat.lt_trichotomy j i with hl | hl | hl
        · by_cases e1 : j = i - 1
          · subst e1; omega
          · have := hmono j (i - 1) (by omega) (by omega)
            have := hmono (i - 1) i (by omega) hi
            omega
        · subst hl; omega
        · have := hmono i j hl hj; omega
    · exact .inl h0
  · rintro (h0 | h0)
    · exact .inr (.inr h0)
    · by_cases i0 : i = 0
      · exact .inl i0
      · refine .inr (.inl fun he => h0 ?_)
        rw [← he, Nat.add_sub_cancel, List.getD_eq_getElem?_getD, List.getElem?_eq_getElem (by omega)]
        exact List.getElem_mem _

theorem choose_pw {rs : List (Int × Int)} {c : Int} {tk : Nat → Bool} (n : Int) : (chooseP rs c tk n).Pairwise (· < ·) := by
  unfold chooseP
  split
  · next h =>
    obtain ⟨_, h2, _⟩ := search_ok rs c n.toNat n.toNat tk (Nat.le_refl _) (by omega)
    have h4 : (sortN (searchP rs c n.toNat tk n.toNat)).Pairwise fun a b => decide (a ≤ b) = true := List.pairwise_mergeSort (fun a b c => by simp; omega) (fun a b => by simp; omega) _
    have h5 := (sortN_perm (searchP rs c n.toNat tk n.toNat)).nodup_iff.2 h2
    refine (h4.and h5).imp fun {a b} h => ?_
    have : a ≤ b := by simpa using h.1
    have := h.2
    omega
  · exact List.Pairwise.nil
/-- The law of parts. -/
theorem fits_law {rs : List (Int × Int)} {c : Int} {tk : Nat → Bool} {n : Nat} (h1 : 1 ≤ n) (hn : n ≤ (free rs c tk).length) {g : Nat} (hg : (runs rs c tk).length ≤ g) :
    spreadP (chooseP rs c tk (n : Int)) (chooseP rs c tk (n : Int)).length = ndP g (lAll c tk rs 0 []) n := by
  rw [spread_heads (choose_pw _), lens_eq]
  have : chooseP rs c tk (n : Int) = sortN (searchP rs c n tk n) := by
    unfold chooseP
    rw [if_pos ⟨by omega, by omega⟩, Int.toNat_natCast]
  rw [this, heads_perm (sortN_perm _), search_heads rs c n n tk g h1 (Nat.le_refl _) hn hg]
end Go.Proofs.Ytjhgomacanffkaa
namespace Go.Proofs.Ytjhgomacanffkaa
open Go Sx Go.RowKit

theorem cW {a b : Int} (h : a = b) (h0 : -9223372036854775808 ≤ b) (h1 : b ≤ 9223372036854775807) : IV.int .i64 (IntKind.wrap .i64 a) = IV.int .i64 b := by
  subst h; rw [wrap64 h0 h1]
theorem cT {p : Prop} [Decidable p] (h : p) : IV.bool (decide p) = IV.bool true := by rw [decide_eq_true h]
theorem cF {p : Prop} [Decidable p] (h : ¬p) : IV.bool (decide p) = IV.bool false := by rw [decide_eq_false h]
theorem cD {p : Prop} [Decidable p] {t : Bool} (h : p ↔ t = true) : IV.bool (decide p) = IV.bool t := by
  cases t with
  | true => exact cT (h.2 rfl)
  | false => exact cF (fun e => by have := h.1 e; cases this)
theorem eT {a b : Int} (h : a = b) : IV.bool (a == b) = IV.bool true := by subst h; simp
theorem eF {a b : Int} (h : a ≠ b) : IV.bool (a == b) = IV.bool false := by simp [h]
theorem eD {a b : Int} {t : Bool} (h : a = b ↔ t = true) : IV.bool (a == b) = IV.bool t := by
  cases t with
  | true => exact eT (h.2 rfl)
  | false => exact eF (fun e => by have := h.1 e; cases this)
theorem nT {a b : Int} (h : a ≠ b) : IV.bool (a != b) = IV.bool true := by simp [h]
theorem nF {a b : Int} (h : a = b) : IV.bool (a != b) = IV.bool false := by subst h; simp
theorem lN {L : List Nat} {i v : Nat} {wr : Bool} (h : L[i]? = some v) : ldX (.cells (nints L) 3, wr) false 1 i = some (.int .i64 (v : Nat)) := by
  show (nints L)[i]? = _
  simp [nints, h]
theorem xN {q n i : Nat} (h : i < n) : indexAddrI tab 27 (slV q n) (.int .i64 (i : Nat)) = some (.ptr q i) := by
  rw [slV_pos (by omega), ix_sl t27d t3s h]; simp
end Go.Proofs.Ytjhgomacanffkaa
namespace Go.Proofs.Ytjhgomacanffkaa
open Go Sx Go.RowKit
-- STOPS tkL, nints, lv13, slV

noncomputable def l13 : List Code := flat (bodyC Try.prog 13)
theorem l13_eq : flat (bodyC Try.prog 13) = l13.take 2 ++ (.block 0 (.loop (loopAt l13 2)) :: l13.drop 3) := by kernel_rfl
theorem enters13 : Go.Proofs.Enters Try.prog 13 := Go.Proofs.enters_of Try.func13 (by kernel_rfl) rfl

def oc13 (q i n v u k : Nat) (L : List Nat) (wr lt z ne e8 : Bool) (h : H) : Nat → Nat → Option It := fun f t => match f, t with
  | 13, 6 => some (.g (.int .i64 (n : Nat)) h)
  | 13, 8 => some (.w (.bool lt))
  | 13, 10 => some (.o (.ptr q i))
  | 13, 11 => some (.l (.int .i64 (v : Nat)) (.cells (nints L) 3, wr))
  | 13, 13 => some (.w (.bool z))
  | 13, 17 => some (.w (.int .i64 ((i - 1 : Nat) : Int)))
  | 13, 18 => some (.o (.ptr q (i - 1)))
  | 13, 19 => some (.l (.int .i64 (u : Nat)) (.cells (nints L) 3, wr))
  | 13, 20 => some (.w (.int .i64 ((u + 1 : Nat) : Int)))
  | 13, 22 => some (.w (.bool ne))
  | 13, 26 => some (.w (.int .i64 ((v % 8 : Nat) : Int)))
  | 13, 27 => some (.w (.bool e8))
  | 13, 30 => some (.w (.int .i64 ((k + 1 : Nat) : Int)))
  | 13, 31 => some (.w (.int .i64 ((i + 1 : Nat) : Int)))
  | _, _ => none
section
variable (h : H) (g : Nat → IV) (lv : IV) (q i n v u k : Nat) (L : List Nat) (wr : Bool)
def lv13 (lv : IV) (k n i : Nat) : List IV := [lv, .int .i64 (k : Nat), lv, .int .i64 (n : Nat), .int .i64 (i : Nat)]
theorem pre13 : psR Try.prog tab (oc13 q i n v u k L wr true true true true h) 50 13 none 33 (l13.take 2) (canon 33 (fun j => [lv].getD j undefI) []) h [0, 2, 5, 6, 7] =
  some (Out.normal, [lv, IV.int .i64 0, lv, IV.int .i64 (↑n : Int), IV.int .i64 0], h, [], [builtinI tab Builtin.len [27] [lv] h = some (IV.int .i64 (↑n : Int), h)]) := by kernel_rfl
theorem r13_end : pxR Try.prog tab (oc13 q i n v u k L wr false true true true h) 50 13 none 33 (loopAt l13 2) (canon 33 (ov [0, 2, 5, 6, 7] (lv13 lv k n i) g) []) h [2] =
  some (Out.exit 0, [IV.int .i64 (↑k : Int)], h, [], [IV.bool (decide ((↑i : Int) < (↑n : Int))) = IV.bool false]) := by kernel_rfl
theorem r13_z : pxR Try.prog tab (oc13 q i n v u k L wr true true true true h) 50 13 none 33 (loopAt l13 2) (canon 33 (ov [0, 2, 5, 6, 7] (lv13 lv k n i) g) []) h [0, 2, 5, 6, 7] =
  some (Out.normal, [lv, IV.int .i64 (↑(k + 1) : Int), lv, IV.int .i64 (↑n : Int), IV.int .i64 (↑(i + 1) : Int)], h, [], [
    IV.bool (decide ((↑i : Int) < (↑n : Int))) = IV.bool true, indexAddrI tab 27 lv (IV.int .i64 (↑i : Int)) = some (IV.ptr q i), H.get h q = some (Bx.cells (nints L) 3, wr), ldX (Bx.cells (nints L) 3, wr) false 1 i = some (IV.int .i64 (↑v : Int)), IV.bool ((↑i : Int) == 0) = IV.bool true, IV.int .i64 (IntKind.wrap .i64 ((↑k : Int) + 1)) = IV.int .i64 (↑(k + 1) : Int), IV.int .i64 (IntKind.wrap .i64 ((↑i : Int) + 1)) = IV.int .i64 (↑(i + 1) : Int)]) := by kernel_rfl
theorem r13_ne : pxR Try.prog tab (oc13 q i n v u k L wr true false true true h) 50 13 none 33 (loopAt l13 2) (canon 33 (ov [0, 2, 5, 6, 7] (lv13 lv k n i) g) []) h [0, 2, 5, 6, 7] =
  some (Out.normal, [lv, IV.int .i64 (↑(k + 1) : Int), lv, IV.int .i64 (↑n : Int), IV.int .i64 (↑(i + 1) : Int)], h, [], [
    IV.bool (decide ((↑i : Int) < (↑n : Int))) = IV.bool true, indexAddrI tab 27 lv (IV.int .i64 (↑i : Int)) = some (IV.ptr q i), H.get h q = some (Bx.cells (nints L) 3, wr), ldX (Bx.cells (nints L) 3, wr) false 1 i = some (IV.int .i64 (↑v : Int)), IV.bool ((↑i : Int) == 0) = IV.bool false, IV.int .i64 (IntKind.wrap .i64 ((↑i : Int) - 1)) = IV.int .i64 (↑(i - 1) : Int), indexAddrI tab 27 lv (IV.int .i64 (↑(i - 1) : Int)) = some (IV.ptr q (i - 1)), H.get h q = some (Bx.cells (nints L) 3, wr), ldX (Bx.cells (nints L) 3, wr) false 1 (i - 1) = some (IV.int .i64 (↑u : Int)), IV.int .i64 (IntKind.wrap .i64 ((↑u : Int) + 1)) = IV.int .i64 (↑(u + 1) : Int), IV.bool ((↑(u + 1) : Int) != (↑v : Int)) = IV.bool true, IV.int .i64 (IntKind.wrap .i64 ((↑k : Int) + 1)) = IV.int .i64 (↑(k + 1) : Int), IV.int .i64 (IntKind.wrap .i64 ((↑i : Int) + 1)) = IV.int .i64 (↑(i + 1) : Int)]) := by kernel_rfl
theorem r13_e8 : pxR Try.prog tab (oc13 q i n v u k L wr true false false true h) 50 13 none 33 (loopAt l13 2) (canon 33 (ov [0, 2, 5, 6, 7] (lv13 lv k n i) g) []) h [0, 2, 5, 6, 7] =
  some (Out.normal, [lv, IV.int .i64 (↑(k + 1) : Int), lv, IV.int .i64 (↑n : Int), IV.int .i64 (↑(i + 1) : Int)], h, [], [
    IV.bool (decide ((↑i : Int) < (↑n : Int))) = IV.bool true, indexAddrI tab 27 lv (IV.int .i64 (↑i : Int)) = some (IV.ptr q i), H.get h q = some (Bx.cells (nints L) 3, wr), ldX (Bx.cells (nints L) 3, wr) false 1 i = some (IV.int .i64 (↑v : Int)), IV.bool ((↑i : Int) == 0) = IV.bool false, IV.int .i64 (IntKind.wrap .i64 ((↑i : Int) - 1)) = IV.int .i64 (↑(i - 1) : Int), indexAddrI tab 27 lv (IV.int .i64 (↑(i - 1) : Int)) = some (IV.ptr q (i - 1)), H.get h q = some (Bx.cells (nints L) 3, wr), ldX (Bx.cells (nints L) 3, wr) false 1 (i - 1) = some (IV.int .i64 (↑u : Int)), IV.int .i64 (IntKind.wrap .i64 ((↑u : Int) + 1)) = IV.int .i64 (↑(u + 1) : Int), IV.bool ((↑(u + 1) : Int) != (↑v : Int)) = IV.bool false, IV.int .i64 (Int.tmod (↑v : Int) 8) = IV.int .i64 (↑(v % 8) : Int), IV.bool ((↑(v % 8) : Int) == 0) = IV.bool true, IV.int .i64 (IntKind.wrap .i64 ((↑k : Int) + 1)) = IV.int .i64 (↑(k + 1) : Int), IV.int .i64 (IntKind.wrap .i64 ((↑i : Int) + 1)) = IV.int .i64 (↑(i + 1) : Int)]) := by kernel_rfl
theorem r13_no : pxR Try.prog tab (oc13 q i n v u k L wr true false false false h) 50 13 none 33 (loopAt l13 2) (canon 33 (ov [0, 2, 5, 6, 7] (lv13 lv k n i) g) []) h [0, 2, 5, 6, 7] =
  some (Out.normal, [lv, IV.int .i64 (↑k : Int), lv, IV.int .i64 (↑n : Int), IV.int .i64 (↑(i + 1) : Int)], h, [], [
    IV.bool (decide ((↑i : Int) < (↑n : Int))) = IV.bool true, indexAddrI tab 27 lv (IV.int .i64 (↑i : Int)) = some (IV.ptr q i), H.get h q = some (Bx.cells (nints L) 3, wr), ldX (Bx.cells (nints L) 3, wr) false 1 i = some (IV.int .i64 (↑v : Int)), IV.bool ((↑i : Int) == 0) = IV.bool false, IV.int .i64 (IntKind.wrap .i64 ((↑i : Int) - 1)) = IV.int .i64 (↑(i - 1) : Int), indexAddrI tab 27 lv (IV.int .i64 (↑(i - 1) : Int)) = some (IV.ptr q (i - 1)), H.get h q = some (Bx.cells (nints L) 3, wr), ldX (Bx.cells (nints L) 3, wr) false 1 (i - 1) = some (IV.int .i64 (↑u : Int)), IV.int .i64 (IntKind.wrap .i64 ((↑u : Int) + 1)) = IV.int .i64 (↑(u + 1) : Int), IV.bool ((↑(u + 1) : Int) != (↑v : Int)) = IV.bool false, IV.int .i64 (Int.tmod (↑v : Int) 8) = IV.int .i64 (↑(v % 8) : Int), IV.bool ((↑(v % 8) : Int) == 0) = IV.bool false, IV.int .i64 (IntKind.wrap .i64 ((↑i : Int) + 1)) = IV.int .i64 (↑(i + 1) : Int)]) := by kernel_rfl
theorem post13 : psR Try.prog tab (oc13 q i n v u k L wr true true true true h) 50 13 none 33 (l13.drop 3) (canon 33 (ov [2] [.int .i64 (k : Nat)] g) []) h [2] =
  some (Out.ret, [IV.int .i64 (↑k : Int)], h, [], []) := by kernel_rfl
end
end Go.Proofs.Ytjhgomacanffkaa
namespace Go.Proofs.Ytjhgomacanffkaa
open Go Sx Go.RowKit

theorem spread_sp {h : H} {q : Nat} {L : List Nat} {wr : Bool} (hg : 0 < L.length → h.get q = some (.cells (nints L) 3, wr)) (hb : ∀ v ∈ L, v < 10000) (hl : L.length < 10000) :
    SpEq Try.prog 13 [slV q L.length] h (.int .i64 (spreadP L L.length : Nat)) h := by
  have hsp : ∀ i, spreadP L i ≤ i := fun i => by
    unfold spreadP
    refine Nat.le_trans (List.length_filter_le _ _) ?_
    simp
  refine Sp.of_ev tab_ok Try.func13 (c := bodyC Try.prog 13) (by kernel_rfl) (Nat.le_of_ble_eq_true rfl) ?_
  show Ev Try.prog none 33 (bodyC Try.prog 13) (BodyQ tab [.tmp 2] _) _ _
  refine Ev.of_flat l13_eq ?_
  refine EvS.px tab_ok mixed (FrIs.start 33 _) (by simp) (pre13 h (slV q L.length) q 0 L.length 0 0 0 L wr) ⟨len_slV t27d _ _ _, trivial⟩ fun fr g hf => ?_
  refine EvS.loop (fun t fr h' => ∃ i, i ≤ L.length ∧ t = L.length - i ∧ h' = h ∧ ∃ g, FrIs 33 fr (ov [0, 2, 5, 6, 7] (lv13 (slV q L.length) (spreadP L i) L.length i) g) []) L.length
    ⟨0, by omega, by omega, rfl, g, hf⟩ ?_
  rintro t fr h' ⟨i, hi, rfl, rfl, g, hf⟩
  have hsi := hsp i
  by_cases hlt : i < L.length
  case neg =>
    obtain rfl : i = L.length := by omega
    refine Ev.px tab_ok mixed hf (r13_end h' g _ q L.length L.length 0 0 _ L wr) ⟨cF (by omega), trivial⟩ fun fr2 g2 hf2 => ?_
    refine RoundEnds.out ?_
    refine EvS.pxEnd tab_ok mixed hf2 (List.cons_ne_nil _ _) (post13 h' g2 q 0 0 0 0 _ L wr) trivial fun fr3 g3 hf3 => ?_
    have e2 : fr3.tm.tmp 2 = .int .i64 (spreadP L L.length : Nat) := hf3.2 2 (by decide)
    exact ⟨.inr rfl, h', [.int .i64 (spreadP L L.length : Nat)], by rw [hf3.1]; rfl, by simp only [resI, e2, Option.map_some], rfl, rfl⟩
  obtain ⟨v, hv⟩ : ∃ v, L[i]? = some v := ⟨L[i], by simp [hlt]⟩
  have hv1 := hb v (List.mem_of_getElem? hv)
  have hgq := hg (by omega)
  have hgv : L.getD i 0 = v := by simp [List.getD_eq_getElem?_getD, hv]
  have hs := spread_succ L i
  by_cases h0 : i = 0
  · have hp : partB L i = true := by unfold partB; simp [h0]
    rw [if_pos hp] at hs
    refine Ev.px tab_ok mixed hf (r13_z h' g _ q i L.length v 0 (spreadP L i) L wr) ⟨cT (by omega), xN hlt, hgq, lN hv, eT (by omega), cW (by omega) (by omega) (by omega), cW (by omega) (by omega) (by omega), trivial⟩ fun fr2 g2 hf2 => ?_
    exact ⟨_, by omega, i + 1, by omega, rfl, rfl, g2, by rw [hs]; exact hf2⟩
  obtain ⟨u, hu⟩ : ∃ u, L[i - 1]? = some u := ⟨L[i - 1], by simp [show i - 1 < L.length by omega]⟩
  have hu1 := hb u (List.mem_of_getElem? hu)
  have hgu : L.getD (i - 1) 0 = u := by simp [List.getD_eq_getElem?_getD, hu]
  by_cases h1 : u + 1 = v
  case neg =>
    have hp : partB L i = true := by unfold partB; rw [hgu, hgv]; simp [h1]
    rw [if_pos hp] at hs
    refine Ev.px tab_ok mixed hf (r13_ne h' g _ q i L.length v u (spreadP L i) L wr) ⟨cT (by omega), xN hlt, hgq, lN hv, eF (by omega), cW (by omega) (by omega) (by omega), xN (by omega), hgq, lN hu, cW (by omega) (by omega) (by omega), nT (by omega), cW (by omega) (by omega) (by omega), cW (by omega) (by omega) (by omega), trivial⟩ fun fr2 g2 hf2 => ?_
    exact ⟨_, by omega, i + 1, by omega, rfl, rfl, g2, by rw [hs]; exact hf2⟩
  by_cases h8 : v % 8 = 0
  · have hp : partB L i = true := by unfold partB; rw [hgv]; simp [h8]
    rw [if_pos hp] at hs
    refine Ev.px tab_ok mixed hf (r13_e8 h' g _ q i L.length v u (spreadP L i) L wr) ⟨cT (by omega), xN hlt, hgq, lN hv, eF (by omega), cW (by omega) (by omega) (by omega), xN (by omega), hgq, lN hu, cW (by omega) (by omega) (by omega), nF (by omega), rfl, eT (by omega), cW (by omega) (by omega) (by omega), cW (by omega) (by omega) (by omega), trivial⟩ fun fr2 g2 hf2 => ?_
    exact ⟨_, by omega, i + 1, by omega, rfl, rfl, g2, by rw [hs]; exact hf2⟩
  · have hp : ¬ partB L i = true := by unfold partB; rw [hgu, hgv]; simp [h0, h1, h8]
    rw [if_neg hp] at hs
    refine Ev.px tab_ok mixed hf (r13_no h' g _ q i L.length v u (spreadP L i) L wr) ⟨cT (by omega), xN hlt, hgq, lN hv, eF (by omega), cW (by omega) (by omega) (by omega), xN (by omega), hgq, lN hu, cW (by omega) (by omega) (by omega), nF (by omega), rfl, eF (by omega), cW (by omega) (by omega) (by omega), trivial⟩ fun fr2 g2 hf2 => ?_
    exact ⟨_, by omega, i + 1, by omega, rfl, rfl, g2, by rw [hs]; exact hf2⟩
theorem spread_cl {h : H} {q : Nat} {L : List Nat} {wr : Bool} (hg : 0 < L.length → h.get q = some (.cells (nints L) 3, wr)) (hb : ∀ v ∈ L, v < 10000) (hl : L.length < 10000) :
    ClEq Try.prog (.func (.func 13) [] []) [slV q L.length] h (.int .i64 (spreadP L L.length : Nat)) h := Cl.of_sp (first := []) (cap := []) enters13 (spread_sp hg hb hl)
end Go.Proofs.Ytjhgomacanffkaa
namespace Go.Proofs.Ytjhgomacanffkaa
open Go Sx Go.RowKit
-- STOPS tkL, nints, lv14, lv14b, slV

noncomputable def l14 : List Code := flat (bodyC Try.prog 14)
theorem l14_eq : flat (bodyC Try.prog 14) = l14.take 3 ++ (.block 0 (.loop (loopAt l14 3)) :: l14.drop 4) := by kernel_rfl
noncomputable def r14 : List Code := flat (loopAt l14 3)
theorem r14_eq : flat (loopAt l14 3) = r14.take 2 ++ (.block 1 (blkAt r14 2) :: []) := by kernel_rfl
noncomputable def m14 : List Code := flat (blkAt r14 2)
theorem m14_eq : flat (blkAt r14 2) = m14.take 2 ++ (.block 2 (.loop (loopAt m14 2)) :: m14.drop 3) := by kernel_rfl
theorem enters14 : Go.Proofs.Enters Try.prog 14 := Go.Proofs.enters_of Try.func14 (by kernel_rfl) rfl

def oc14 (s1 s2 s3 : IV) (h2 h : H) (b m i k at' vi va : Nat) (z z2 : Int) (A : List Nat) (pos lt gt : Bool) : Nat → Nat → Option It := fun f t => match f, t with
  | 14, 11 => some (.g s3 h2)
  | 14, 13 => some (.w (.bool pos))
  | 14, 16 => some (.g (.int .i64 (m : Nat)) h)
  | 14, 17 => some (.w (.bool true))
  | 14, 21 => some (.g (.int .i64 (m : Nat)) h)
  | 14, 22 => some (.w (.bool lt))
  | 14, 27 => some (.o (.ptr b i))
  | 14, 28 => some (.l (.int .i64 (vi : Nat)) (.cells (nints A) 3, true))
  | 14, 31 => some (.o (.ptr b at'))
  | 14, 32 => some (.l (.int .i64 (va : Nat)) (.cells (nints A) 3, true))
  | 14, 33 => some (.w (.bool gt))
  | 14, 24 => some (.w (.int .i64 ((i + 1 : Nat) : Int)))
  | 14, 38 => some (.o (.ptr b at'))
  | 14, 39 => some (.l (.int .i64 (va : Nat)) (.cells (nints A) 3, true))
  | 14, 40 => some (.w (.int .i64 z2))
  | 14, 44 => some (.o s1)
  | 14, 47 => some (.w (.int .i64 ((at' + 1 : Nat) : Int)))
  | 14, 48 => some (.o s2)
  | 14, 49 => some (.g s3 h2)
  | 14, 51 => some (.w (.int .i64 ((k + 1 : Nat) : Int)))
  | 14, 53 => some (.w (.bool false))
  | _, _ => none
section
variable (s1 s2 s3 lv : IV) (h2 h : H) (b m i k at' vi va : Nat) (z z2 : Int) (A : List Nat) (c : Cap) (g : Nat → IV)
def lv14 (z : Int) (ov : IV) (k : Nat) : List IV := [.int .i64 z, ov, .int .i64 (k : Nat)]
def lv14b (z : Int) (ov : IV) (k at' i : Nat) : List IV := [.int .i64 z, ov, .int .i64 (k : Nat), .int .i64 (at' : Nat), .int .i64 (i : Nat)]
theorem pre14 : psR Try.prog tab (oc14 s1 s2 s3 h2 h b m i k at' vi va z z2 A true true true) 50 14 none 55 (l14.take 3) (canon 55 (fun j => [lv, .int .i64 z].getD j undefI) []) h [1, 5, 6] =
  some (Out.normal, [IV.int .i64 z, s3, IV.int .i64 0], h2, [], [builtinI tab Builtin.append [27, 27] [IV.slice h.2 0 0 (Cap.hard 0), lv] (H.new h (Bx.cells [] 3)) = some (s3, h2)]) := by kernel_rfl
theorem r14_end : psR Try.prog tab (oc14 s1 s2 s3 h2 h b m i k at' vi va z z2 A false true true) 50 14 none 55 (r14.take 2) (canon 55 (ov [1, 5, 6] (lv14 z (.slice b 0 m c) k) g) []) h [1, 6] =
  some (Out.exit 0, [IV.int .i64 z, IV.int .i64 (↑k : Int)], h, [], [IV.bool (decide (z > 0)) = IV.bool false]) := by kernel_rfl
theorem r14_go : psR Try.prog tab (oc14 s1 s2 s3 h2 h b m i k at' vi va z z2 A true true true) 50 14 none 55 (r14.take 2) (canon 55 (ov [1, 5, 6] (lv14 z (.slice b 0 m c) k) g) []) h [1, 5, 6] =
  some (Out.normal, [IV.int .i64 z, IV.slice b 0 m c, IV.int .i64 (↑k : Int)], h, [], [IV.bool (decide (z > 0)) = IV.bool true, builtinI tab Builtin.len [27] [IV.slice b 0 m c] h = some (IV.int .i64 (↑m : Int), h), IV.bool (decide ((↑m : Int) > 0)) = IV.bool true]) := by kernel_rfl
theorem m14_pre : psR Try.prog tab (oc14 s1 s2 s3 h2 h b m i k at' vi va z z2 A true true true) 50 14 none 55 (m14.take 2) (canon 55 (ov [1, 5, 6] (lv14 z (.slice b 0 m c) k) g) []) h [1, 5, 6, 7, 8] =
  some (Out.normal, [IV.int .i64 z, IV.slice b 0 m c, IV.int .i64 (↑k : Int), IV.int .i64 0, IV.int .i64 1], h, [], []) := by kernel_rfl
theorem in14_end : pxR Try.prog tab (oc14 s1 s2 s3 h2 h b m i k at' vi va z z2 A true false true) 50 14 none 55 (loopAt m14 2) (canon 55 (ov [1, 5, 6, 7, 8] (lv14b z (.slice b 0 m c) k at' i) g) []) h [1, 5, 6, 7] =
  some (Out.exit 2, [IV.int .i64 z, IV.slice b 0 m c, IV.int .i64 (↑k : Int), IV.int .i64 (↑at' : Int)], h, [], [builtinI tab Builtin.len [27] [IV.slice b 0 m c] h = some (IV.int .i64 (↑m : Int), h), IV.bool (decide ((↑i : Int) < (↑m : Int))) = IV.bool false]) := by kernel_rfl
theorem in14_gt : pxR Try.prog tab (oc14 s1 s2 s3 h2 h b m i k at' vi va z z2 A true true true) 50 14 none 55 (loopAt m14 2) (canon 55 (ov [1, 5, 6, 7, 8] (lv14b z (.slice b 0 m c) k at' i) g) []) h [1, 5, 6, 7, 8] =
  some (Out.normal, [IV.int .i64 z, IV.slice b 0 m c, IV.int .i64 (↑k : Int), IV.int .i64 (↑i : Int), IV.int .i64 (↑(i + 1) : Int)], h, [], [
    builtinI tab Builtin.len [27] [IV.slice b 0 m c] h = some (IV.int .i64 (↑m : Int), h), IV.bool (decide ((↑i : Int) < (↑m : Int))) = IV.bool true, indexAddrI tab 27 (IV.slice b 0 m c) (IV.int .i64 (↑i : Int)) = some (IV.ptr b i), H.get h b = some (Bx.cells (nints A) 3, true), ldX (Bx.cells (nints A) 3, true) false 1 i = some (IV.int .i64 (↑vi : Int)), indexAddrI tab 27 (IV.slice b 0 m c) (IV.int .i64 (↑at' : Int)) = some (IV.ptr b at'), H.get h b = some (Bx.cells (nints A) 3, true), ldX (Bx.cells (nints A) 3, true) false 1 at' = some (IV.int .i64 (↑va : Int)), IV.bool (decide ((↑vi : Int) > (↑va : Int))) = IV.bool true, IV.int .i64 (IntKind.wrap .i64 ((↑i : Int) + 1)) = IV.int .i64 (↑(i + 1) : Int)]) := by kernel_rfl
theorem in14_le : pxR Try.prog tab (oc14 s1 s2 s3 h2 h b m i k at' vi va z z2 A true true false) 50 14 none 55 (loopAt m14 2) (canon 55 (ov [1, 5, 6, 7, 8] (lv14b z (.slice b 0 m c) k at' i) g) []) h [1, 5, 6, 7, 8] =
  some (Out.normal, [IV.int .i64 z, IV.slice b 0 m c, IV.int .i64 (↑k : Int), IV.int .i64 (↑at' : Int), IV.int .i64 (↑(i + 1) : Int)], h, [], [
    builtinI tab Builtin.len [27] [IV.slice b 0 m c] h = some (IV.int .i64 (↑m : Int), h), IV.bool (decide ((↑i : Int) < (↑m : Int))) = IV.bool true, indexAddrI tab 27 (IV.slice b 0 m c) (IV.int .i64 (↑i : Int)) = some (IV.ptr b i), H.get h b = some (Bx.cells (nints A) 3, true), ldX (Bx.cells (nints A) 3, true) false 1 i = some (IV.int .i64 (↑vi : Int)), indexAddrI tab 27 (IV.slice b 0 m c) (IV.int .i64 (↑at' : Int)) = some (IV.ptr b at'), H.get h b = some (Bx.cells (nints A) 3, true), ldX (Bx.cells (nints A) 3, true) false 1 at' = some (IV.int .i64 (↑va : Int)), IV.bool (decide ((↑vi : Int) > (↑va : Int))) = IV.bool false, IV.int .i64 (IntKind.wrap .i64 ((↑i : Int) + 1)) = IV.int .i64 (↑(i + 1) : Int)]) := by kernel_rfl
theorem m14_post : psR Try.prog tab (oc14 s1 s2 s3 h2 h b m i k at' vi va z z2 A true true true) 50 14 none 55 (m14.drop 3) (canon 55 (ov [1, 5, 6, 7] ((lv14b z (.slice b 0 m c) k at' i).take 4) g) []) h [1, 5, 6] =
  some (Out.normal, [IV.int .i64 z2, s3, IV.int .i64 (↑(k + 1) : Int)], h2, [], [
    indexAddrI tab 27 (IV.slice b 0 m c) (IV.int .i64 (↑at' : Int)) = some (IV.ptr b at'), H.get h b = some (Bx.cells (nints A) 3, true), ldX (Bx.cells (nints A) 3, true) false 1 at' = some (IV.int .i64 (↑va : Int)), IV.int .i64 (IntKind.wrap .i64 (z - (↑va : Int))) = IV.int .i64 z2, sliceI tab 27 (IV.slice b 0 m c) none (some (IV.int .i64 (↑at' : Int))) (some (IV.int .i64 (↑at' : Int))) h = some s1, IV.int .i64 (IntKind.wrap .i64 ((↑at' : Int) + 1)) = IV.int .i64 (↑(at' + 1) : Int), sliceI tab 27 (IV.slice b 0 m c) (some (IV.int .i64 (↑(at' + 1) : Int))) none none h = some s2, builtinI tab Builtin.append [27, 27] [s1, s2] h = some (s3, h2), IV.int .i64 (IntKind.wrap .i64 ((↑k : Int) + 1)) = IV.int .i64 (↑(k + 1) : Int)]) := by kernel_rfl
theorem post14 : psR Try.prog tab (oc14 s1 s2 s3 h2 h b m i k at' vi va z z2 A true true true) 50 14 none 55 (l14.drop 4) (canon 55 (ov [1, 6] [.int .i64 z, .int .i64 (k : Nat)] g) []) h [4] =
  some (Out.ret, [IV.int .i64 (↑k : Int)], h, [], [IV.bool (decide (z > 0)) = IV.bool false]) := by kernel_rfl
end
end Go.Proofs.Ytjhgomacanffkaa
namespace Go.Proofs.Ytjhgomacanffkaa
open Go Sx Go.RowKit

theorem nints_append (a b : List Nat) : nints (a ++ b) = nints a ++ nints b := by simp [nints]
theorem nints_one (l : List Nat) : (nints l).all IV.one = true := by
  induction l with
  | nil => rfl
  | cons a l ih => simp [nints, IV.one]

theorem len_slice {t e : TypeId} (ht : (tab.get t).map Ty.d = some (.slice e)) (b o n : Nat) (c : Cap) (h : H) : builtinI tab .len [t] [.slice b o n c] h = some (.int .i64 n, h) := by
  show (lenI tab t (.slice b o n c) h).map _ = _
  unfold lenI
  cases h1 : tab.get t with
  | none => rw [h1] at ht; cases ht
  | some ty =>
    rw [h1] at ht
    simp only [Option.map_some, Option.some.injEq] at ht
    simp only [ht]; rfl
/-- A list with some cells behind it. -/
structure Own (h : H) (b : Nat) (c : Cap) (O X : List Nat) : Prop where
  get : h.get b = some (.cells (nints (O ++ X)) 3, true)
  cap : (c = .soft 0 ∧ X = []) ∨ c = .hard O.length

theorem t3b : (tab.get 3).map (fun y => (y.size, y.bytes, y.zv.cells.length)) = some (1, 8, 1) := t3i

theorem cut1 {h : H} {b : Nat} {c : Cap} {O X : List Nat} (o : Own h b c O X) {at' : Nat} (ha : at' < O.length) : sliceI tab 27 (.slice b 0 O.length c) none (some (.int .i64 (at' : Nat))) (some (.int .i64 (at' : Nat))) h = some (.slice b 0 at' (.hard at')) := by
  have h1 := t27d
  have h2 := t3s
  unfold sliceI
  cases ht : tab.get 27 with
  | none => rw [ht] at h1; cases h1
  | some ty =>
    cases he : tab.get 3 with
    | none => rw [he] at h2; cases h2
    | some et =>
      rw [ht] at h1; rw [he] at h2
      simp only [Option.map_some, Option.some.injEq] at h1 h2
      rcases o.cap with ⟨rfl, rfl⟩ | rfl
      · have hg := o.get
        simp only [h1, he, boundI, hg]
        rw [if_pos (by omega)]
        simp only [Int.toNat_natCast, h2]
        have e1 : (Nat.ble 0 at' && Nat.ble 1 1 && Nat.beq 3 3 && Nat.ble ((0 + at') * 1) (nints (O ++ [])).length) = true := by
          rw [nints_length, List.append_nil, Nat.ble_eq_true_of_le (Nat.zero_le _), Nat.ble_eq_true_of_le (by omega : (0 + at') * 1 ≤ O.length)]; rfl
        have e2 : (Nat.ble at' at' && (Nat.ble (0 + 1) at' || Nat.beq 0 0) && Nat.ble ((0 + at') * 1) (nints (O ++ [])).length && (some (IV.int .i64 (at' : Nat))).isSome) = true := by
          rw [nints_length, List.append_nil, Nat.ble_eq_true_of_le (Nat.le_refl _), Nat.ble_eq_true_of_le (by omega : (0 + at') * 1 ≤ O.length)]; simp
        rw [e1]
        simp only [cond_true]
        rw [e2]
        simp
      · simp only [h1, he, boundI]
        rw [if_pos (by omega)]
        simp only [Int.toNat_natCast, h2]
        have e2 : (Nat.ble 0 at' && Nat.ble at' at' && Nat.ble at' O.length && ((some (IV.int .i64 (at' : Nat))).isNone || (some (IV.int .i64 (at' : Nat))).isSome)) = true := by
          rw [Nat.ble_eq_true_of_le (Nat.zero_le _), Nat.ble_eq_true_of_le (Nat.le_refl _), Nat.ble_eq_true_of_le (by omega : at' ≤ O.length)]; rfl
        rw [e2]
        cases Nat.beq 0 at' <;> simp

theorem own_cut {h : H} {b : Nat} {c : Cap} {O X : List Nat} (o : Own h b c O X) (hbn : b < h.next) {at' : Nat} (ha : at' < O.length) (hl : O.length < 10000) :
    ∃ s2 s3 h2 b2 c2 X2, sliceI tab 27 (.slice b 0 O.length c) (some (.int .i64 ((at' + 1 : Nat) : Int))) none none h = some s2 ∧ builtinI tab .append [27, 27] [.slice b 0 at' (.hard at'), s2] h = some (s3, h2) ∧
      s3 = .slice b2 0 (O.eraseIdx at').length c2 ∧ Own h2 b2 c2 (O.eraseIdx at') X2 ∧ h.next ≤ h2.next ∧ b2 < h2.next ∧ (b2 = b ∨ b2 = h.next) ∧ ∀ i, i < h.next → i ≠ b → h2.get i = h.get i := by
  have h1 := t27d
  have h2 := t3i
  have hel : (O.eraseIdx at').length = O.length - 1 := by rw [List.length_eraseIdx, if_pos ha]
  have hel2 : O.eraseIdx at' = O.take at' ++ O.drop (at' + 1) := List.eraseIdx_eq_take_drop_succ ..
  cases ht : tab.get 27 with
  | none => rw [ht] at h1; cases h1
  | some ty =>
    cases he : tab.get 3 with
    | none => rw [he] at h2; cases h2
    | some et =>
      rw [ht] at h1; rw [he] at h2
      simp only [Option.map_some, Option.some.injEq, Prod.mk.injEq] at h1 h2
      obtain ⟨z1, z2, z3⟩ := h2
      have hg := o.get
      have hlen : (nints (O ++ X)).length = O.length + X.length := by rw [nints_length, List.length_append]
      -- the second piece, and what it yields
      have src : ∀ (of : Nat) (c' : Cap), of = at' + 1 → 0 < O.length - (at' + 1) → srcI tab 27 1 (.slice b of (O.length - (at' + 1)) c') h = some (O.length - (at' + 1), nints (O.drop (at' + 1))) := by
        rintro of c' rfl hp
        unfold srcI
        simp only [ht, h1, hg]
        have e1 : ((nints (O ++ X)).drop (at' + 1)).take ((O.length - (at' + 1)) * 1) = nints (O.drop (at' + 1)) := by
          rw [nints_append, List.drop_append_of_le_length (by rw [nints_length]; omega), Nat.mul_one, List.take_append_of_le_length (by rw [List.length_drop, nints_length]; omega), List.take_of_length_le (by rw [List.length_drop, nints_length]; omega)]
          simp [nints]
        rw [e1, nints_one, hlen, Nat.ble_eq_true_of_le (by omega)]
        rfl
      by_cases hlast : at' + 1 = O.length
      · -- the last one goes
        have key : ∃ s2, sliceI tab 27 (.slice b 0 O.length c) (some (.int .i64 ((at' + 1 : Nat) : Int))) none none h = some s2 ∧ srcI tab 27 1 s2 h = some (0, []) := by
          unfold sliceI
          rcases o.cap with ⟨rfl, rfl⟩ | rfl
          · refine ⟨.tail b (0 + (at' + 1) * 1) (0 + (at' + 1)) ((at' + 1) * 1), ?_, ?_⟩
            · simp only [ht, h1, he, boundI, hg]
              rw [if_pos (by omega)]
              simp only [Int.toNat_natCast, z1]
              rw [hlen, ← hlast, Nat.ble_eq_true_of_le (Nat.le_refl _), Nat.ble_eq_true_of_le (by omega : (0 + (at' + 1)) * 1 ≤ at' + 1 + [].length)]
              have e3 : Nat.ble ((0 + (at' + 1) + 1) * 1) (at' + 1 + ([] : List Nat).length) = false := by
                cases hb : Nat.ble ((0 + (at' + 1) + 1) * 1) (at' + 1 + ([] : List Nat).length) with
                | false => rfl
                | true => have := Nat.le_of_ble_eq_true hb; simp at this; omega
              rw [e3]
              simp
              rfl
            · unfold srcI
              simp only [ht, h1]
          · refine ⟨.slice b (bif Nat.beq (at' + 1) O.length then 0 else 0 + (at' + 1) * 1) (O.length - (at' + 1)) (.hard (O.length - (at' + 1))), ?_, ?_⟩
            · simp only [ht, h1, he, boundI]
              rw [if_pos (by omega)]
              simp only [Int.toNat_natCast, z1]
              rw [Nat.ble_eq_true_of_le (by omega : at' + 1 ≤ O.length), Nat.ble_eq_true_of_le (Nat.le_refl O.length)]
              rfl
            · unfold srcI
              simp only [ht, h1, hg]
              rw [← hlast, show Nat.beq (at' + 1) (at' + 1) = true from Nat.beq_refl _]
              simp
              rw [Nat.ble_eq_true_of_le (Nat.zero_le _)]
              rfl
        obtain ⟨s2, k1, k2⟩ := key
        refine ⟨s2, .slice b 0 at' (.hard at'), h.put b (.cells (nints (O ++ X)) 3), b, .hard at', O.drop at' ++ X, k1, ?_, by rw [hel]; congr 1; omega, ⟨?_, .inr (by rw [hel]; congr 1; omega)⟩, Nat.le_refl _, hbn, .inl rfl, fun i _ hi => by rw [H.get_put, if_neg (fun e => hi e.symm)]⟩
        · show appendI tab 27 27 (.slice b 0 at' (.hard at')) s2 h = _
          unfold appendI
          simp only [ht, h1, he, z1, k2, hg]
          rw [if_pos (by omega), hlen, Nat.ble_eq_true_of_le (by omega)]
          simp only [Nat.add_zero, Bool.and_true, cond_true]
          congr 3
        · rw [H.get_put, if_pos rfl]
          congr 4
          rw [hel2, ← List.append_assoc, List.drop_of_length_le (by omega), List.append_nil, List.take_append_drop]
      · -- more stand behind it
        have hp : 0 < O.length - (at' + 1) := by omega
        have key : ∃ s2, sliceI tab 27 (.slice b 0 O.length c) (some (.int .i64 ((at' + 1 : Nat) : Int))) none none h = some s2 ∧ srcI tab 27 1 s2 h = some (O.length - (at' + 1), nints (O.drop (at' + 1))) := by
          unfold sliceI
          rcases o.cap with ⟨rfl, rfl⟩ | rfl
          · refine ⟨.slice b (at' + 1) (O.length - (at' + 1)) (.soft (0 + (at' + 1))), ?_, src _ _ rfl hp⟩
            simp only [ht, h1, he, boundI, hg]
            rw [if_pos (by omega)]
            simp only [Int.toNat_natCast, z1]
            rw [hlen, Nat.ble_eq_true_of_le (by omega : at' + 1 ≤ O.length), Nat.ble_eq_true_of_le (by omega : (0 + O.length) * 1 ≤ O.length + [].length), Nat.ble_eq_true_of_le (by omega : (0 + (at' + 1) + 1) * 1 ≤ O.length + [].length)]
            simp
            rfl
          · refine ⟨.slice b (at' + 1) (O.length - (at' + 1)) (.hard (O.length - (at' + 1))), ?_, src _ _ rfl hp⟩
            simp only [ht, h1, he, boundI]
            rw [if_pos (by omega)]
            simp only [Int.toNat_natCast, z1]
            rw [Nat.ble_eq_true_of_le (by omega : at' + 1 ≤ O.length), Nat.ble_eq_true_of_le (Nat.le_refl O.length)]
            have e3 : Nat.beq (at' + 1) O.length = false := by
              cases hb : Nat.beq (at' + 1) O.length with
              | false => rfl
              | true => exact absurd (Nat.eq_of_beq_eq_true hb) hlast
            rw [e3]
            simp
        obtain ⟨s2, k1, k2⟩ := key
        refine ⟨s2, .slice h.next 0 (at' + (O.length - (at' + 1))) (.soft 0), h.new (.cells (nints (O.eraseIdx at')) 3), h.next, .soft 0, [], k1, ?_, by rw [hel]; congr 1; omega, ⟨?_, .inl ⟨rfl, rfl⟩⟩, Nat.le_succ _, Nat.lt_succ_self _, .inr rfl, fun i hi _ => by rw [H.get_new, if_neg (by omega)]⟩
        · show appendI tab 27 27 (.slice b 0 at' (.hard at')) s2 h = _
          unfold appendI
          simp only [ht, h1, he, z1, k2, hg]
          rw [if_neg (by omega), if_pos ⟨by omega, by rw [z2]; omega, z3, by rw [hlen]; omega⟩]
          congr 4
          rw [hel2, nints_append, nints_append, List.drop_zero, List.take_append_of_le_length (by rw [nints_length]; omega)]
          simp [nints]
        · rw [H.get_new, if_pos rfl, List.append_nil]

theorem mem_le_sum : ∀ {L : List Nat} {v : Nat}, v ∈ L → v ≤ L.sum
  | a :: L, v, h => by
    rw [List.sum_cons]
    rcases List.mem_cons.1 h with rfl | h
    · omega
    · have := mem_le_sum h; omega
theorem sum_erase : ∀ {L : List Nat} {i v : Nat}, L[i]? = some v → (L.eraseIdx i).sum + v = L.sum
  | [], i, v, h => by simp at h
  | a :: L, 0, v, h => by simp at h; subst h; simp; omega
  | a :: L, i + 1, v, h => by
    have := sum_erase (L := L) (i := i) (v := v) (by simpa using h)
    simp only [List.eraseIdx_cons_succ, List.sum_cons]; omega

theorem need_sp {h : H} {q n : Nat} {L : List Nat} {wr : Bool} (hd : ∀ i y, h.get i = some y → i < h.next) (hg : h.get q = some (.cells (nints L) 3, wr)) (h1 : 1 ≤ n) (hn : n ≤ L.sum) (hs : L.sum < 10000) (hl : L.length < 1000) :
    Sp Try.prog 14 [slV q L.length, .int .i64 (n : Nat)] h fun v' h' => v' = .int .i64 (ndP L.length L n : Nat) ∧ ∀ i x, h.get i = some x → h'.get i = some x := by
  have hL : 0 < L.length := by
    cases L with
    | nil => simp at hn; omega
    | cons a L => simp
  refine Sp.of_ev tab_ok Try.func14 (c := bodyC Try.prog 14) (by kernel_rfl) (Nat.le_of_ble_eq_true rfl) ?_
  show Ev Try.prog none 55 (bodyC Try.prog 14) (BodyQ tab [.tmp 4] _) _ _
  refine Ev.of_flat l14_eq ?_
  -- the copy
  have happ : builtinI tab .append [27, 27] [.slice h.next 0 0 (.hard 0), slV q L.length] (h.new (.cells [] 3)) = some (.slice (h.next + 1) 0 L.length (.soft 0), (h.new (.cells [] 3)).new (.cells (nints L) 3)) := by
    have h1 := t27d
    have h2 := t3i
    cases ht : tab.get 27 with
    | none => rw [ht] at h1; cases h1
    | some ty =>
      cases he : tab.get 3 with
      | none => rw [he] at h2; cases h2
      | some et =>
        rw [ht] at h1; rw [he] at h2
        simp only [Option.map_some, Option.some.injEq, Prod.mk.injEq] at h1 h2
        obtain ⟨z1, z2, z3⟩ := h2
        have hq := hd _ _ hg
        have hgq : (h.new (.cells [] 3)).get q = some (.cells (nints L) 3, wr) := by rw [H.get_new, if_neg (by omega)]; exact hg
        have hgn : (h.new (.cells [] 3)).get h.next = some (.cells [] 3, true) := by rw [H.get_new, if_pos rfl]
        have k2 : srcI tab 27 1 (slV q L.length) (h.new (.cells [] 3)) = some (L.length, nints L) := by
          rw [slV_pos hL]
          unfold srcI
          simp only [ht, h1, hgq]
          rw [List.drop_zero, List.take_of_length_le (by rw [nints_length]; omega), nints_one, nints_length, Nat.ble_eq_true_of_le (by omega)]
          rfl
        show appendI tab 27 27 (.slice h.next 0 0 (.hard 0)) (slV q L.length) _ = _
        unfold appendI
        simp only [ht, h1, he, z1, k2, hgn]
        rw [if_neg (by omega), if_pos ⟨by omega, by rw [z2]; omega, z3, by simp⟩]
        simp [H.next_new]
  refine EvS.px tab_ok mixed (FrIs.start 55 _) (by simp) (pre14 (.nilslice) (.nilslice) _ (slV q L.length) _ h 0 0 0 0 0 0 0 (n : Nat) 0 []) ⟨happ, trivial⟩ fun fr g hf => ?_
  refine EvS.loop (fun t fr h' => ∃ O X b c z k, t = O.length ∧ Own h' b c O X ∧ h.next ≤ b ∧ b < h'.next ∧ (∀ i x, h.get i = some x → h'.get i = some x) ∧ z ≤ (O.sum : Int) ∧ -10000 ≤ z ∧ O.sum < 10000 ∧ k + O.length ≤ L.length ∧ k + ndP O.length O z.toNat = ndP L.length L n ∧
      ∃ g, FrIs 55 fr (ov [1, 5, 6] (lv14 z (.slice b 0 O.length c) k) g) []) L.length
    ⟨L, [], h.next + 1, .soft 0, n, 0, rfl, ⟨by rw [List.append_nil, H.get_new, H.next_new]; exact if_pos rfl, .inl ⟨rfl, rfl⟩⟩, by omega, by rw [H.next_new, H.next_new]; omega, fun i x hi => by
      have := hd _ _ hi
      rw [H.get_new, H.next_new, if_neg (by omega), H.get_new, if_neg (by omega)]; exact hi, by omega, by omega, hs, by omega, by simp, g, hf⟩ ?_
  rintro t fr h' ⟨O, X, b, c, z, k, rfl, o, hb1, hb2, hkeep, hz1, hz2, hO, hk, htot, g, hf⟩
  refine Ev.of_flat r14_eq ?_
  have qlen : builtinI tab .len [27] [.slice b 0 O.length c] h' = some (.int .i64 (O.length : Nat), h') := len_slice t27d _ _ _ _ _
  by_cases hz0 : z ≤ 0
  · refine EvS.px tab_ok mixed hf (by simp) (r14_end .nilslice .nilslice .nilslice h' h' b O.length 0 k 0 0 0 z 0 [] c g) ⟨cF (by omega), trivial⟩ fun fr2 g2 hf2 => ?_
    simp only [Out.next]
    refine RoundEnds.out ?_
    refine EvS.pxEnd tab_ok mixed hf2 (List.cons_ne_nil _ _) (post14 .nilslice .nilslice .nilslice h' h' b O.length 0 k 0 0 0 z 0 [] g2) ⟨cF (by omega), trivial⟩ fun fr3 g3 hf3 => ?_
    have e0 : z.toNat = 0 := by omega
    have e1 : ndP O.length O 0 = 0 := by
      cases O.length with
      | zero => rfl
      | succ m => rw [ndP, if_pos (.inl rfl)]
    rw [e0, e1, Nat.add_zero] at htot
    have e4 : fr3.tm.tmp 4 = .int .i64 (k : Nat) := hf3.2 4 (by decide)
    exact ⟨.inr rfl, h', [.int .i64 (k : Nat)], by rw [hf3.1]; rfl, by simp only [resI, e4, Option.map_some], by rw [htot]; exact ⟨rfl, hkeep⟩⟩
  have hO0 : 0 < O.length := by
    cases O with
    | nil => simp at hz1; omega
    | cons a O => simp
  have hOl : O.length ≤ L.length := by omega
  refine EvS.px tab_ok mixed hf (by simp) (r14_go .nilslice .nilslice .nilslice h' h' b O.length 0 k 0 0 0 z 0 [] c g) ⟨cT (by omega), qlen, cT (by omega), trivial⟩ fun fr2 g2 hf2 => ?_
  refine Ev.block (Ev.of_flat m14_eq ?_)
  refine EvS.px tab_ok mixed hf2 (by simp) (m14_pre .nilslice .nilslice .nilslice h' h' b O.length 0 k 0 0 0 z 0 [] c g2) trivial fun fr3 g3 hf3 => ?_
  refine EvS.loop (fun t fr h2 => ∃ i, 1 ≤ i ∧ i ≤ O.length ∧ t = O.length - i ∧ h2 = h' ∧ ∃ g, FrIs 55 fr (ov [1, 5, 6, 7, 8] (lv14b z (.slice b 0 O.length c) k (atI O (i - 1)) i) g) []) (O.length - 1)
    ⟨1, by omega, by omega, by omega, rfl, g3, hf3⟩ ?_
  rintro t fr h2 ⟨i, hi1, hi, rfl, rfl, g, hf4⟩
  have hle := atI_le O (i - 1)
  have hget : ∀ j v, O[j]? = some v → ldX (.cells (nints (O ++ X)) 3, true) false 1 j = some (.int .i64 (v : Nat)) := fun j v hj => lN (by
    rw [List.getElem?_append_left (List.getElem?_eq_some_iff.1 hj).1]; exact hj)
  have hixO : ∀ j, j < O.length → indexAddrI tab 27 (.slice b 0 O.length c) (.int .i64 (j : Nat)) = some (.ptr b j) := fun j hj => by
    rw [ix_sl t27d t3s hj]; simp
  obtain ⟨va, hva⟩ : ∃ v, O[atI O (i - 1)]? = some v := ⟨O[atI O (i - 1)], by simp [show atI O (i - 1) < O.length by omega]⟩
  have gva : O.getD (atI O (i - 1)) 0 = va := by simp [List.getD_eq_getElem?_getD, hva]
  by_cases hil : i < O.length
  · obtain ⟨vi, hvi⟩ : ∃ v, O[i]? = some v := ⟨O[i], by simp [hil]⟩
    have gvi : O.getD i 0 = vi := by simp [List.getD_eq_getElem?_getD, hvi]
    have hat : atI O (i + 1 - 1) = if va < vi then i else atI O (i - 1) := by
      obtain ⟨m, rfl⟩ : ∃ m, i = m + 1 := ⟨i - 1, by omega⟩
      simp only [Nat.add_sub_cancel] at gva ⊢
      rw [atI, gva, gvi]
    by_cases hgt : va < vi
    · rw [if_pos hgt] at hat
      refine Ev.px tab_ok mixed hf4 (in14_gt .nilslice .nilslice .nilslice h2 h2 b O.length i k (atI O (i - 1)) vi va z 0 (O ++ X) c g) ⟨qlen, cT (by omega), hixO _ hil, o.get, hget _ _ hvi, hixO _ (by omega), o.get, hget _ _ hva, cT (by omega), cW (by omega) (by omega) (by omega), trivial⟩ fun fr5 g5 hf5 => ?_
      exact ⟨O.length - (i + 1), by omega, i + 1, by omega, by omega, rfl, rfl, g5, by rw [hat]; exact hf5⟩
    · rw [if_neg hgt] at hat
      refine Ev.px tab_ok mixed hf4 (in14_le .nilslice .nilslice .nilslice h2 h2 b O.length i k (atI O (i - 1)) vi va z 0 (O ++ X) c g) ⟨qlen, cT (by omega), hixO _ hil, o.get, hget _ _ hvi, hixO _ (by omega), o.get, hget _ _ hva, cF (by omega), cW (by omega) (by omega) (by omega), trivial⟩ fun fr5 g5 hf5 => ?_
      exact ⟨O.length - (i + 1), by omega, i + 1, by omega, by omega, rfl, rfl, g5, by rw [hat]; exact hf5⟩
  obtain rfl : i = O.length := by omega
  refine Ev.px tab_ok mixed hf4 (in14_end .nilslice .nilslice .nilslice h2 h2 b O.length O.length k (atI O (O.length - 1)) 0 va z 0 (O ++ X) c g) ⟨qlen, cF (by omega), trivial⟩ fun fr5 g5 hf5 => ?_
  refine RoundEnds.out ?_
  have hatl : atP O < O.length := by unfold atP; omega
  have hatP : atI O (O.length - 1) = atP O := rfl
  rw [hatP] at hf5 hva gva
  have hvs := mem_le_sum (List.mem_of_getElem? hva)
  have hse := sum_erase hva
  have hel : (O.eraseIdx (atP O)).length = O.length - 1 := by rw [List.length_eraseIdx, if_pos hatl]
  obtain ⟨s2, s3, h3, b2, c2, X2, k1, k2, rfl, o2, hn2, hbl2, hb2', hkeep2⟩ := own_cut o hb2 hatl (by omega)
  have hnd : ndP O.length O z.toNat = 1 + ndP (O.eraseIdx (atP O)).length (O.eraseIdx (atP O)) (z - va).toNat := by
    obtain ⟨m, hm⟩ : ∃ m, O.length = m + 1 := ⟨O.length - 1, by omega⟩
    rw [hel, hm, ndP, if_neg (fun e => e.elim (by omega) (fun e => by rw [e] at hO0; simp at hO0)), gva, Nat.add_sub_cancel]
    congr 2
    omega
  refine EvS.pxEnd tab_ok mixed hf5 (List.cons_ne_nil _ _) (m14_post (.slice b 0 (atP O) (.hard (atP O))) s2 _ h3 h2 b O.length 0 k (atP O) 0 va z (z - va) (O ++ X) c g5)
    ⟨hixO _ hatl, o.get, hget _ _ hva, cW rfl (by omega) (by omega), cut1 o hatl, cW (by omega) (by omega) (by omega), k1, k2, cW (by omega) (by omega) (by omega), trivial⟩ fun fr6 g6 hf6 => ?_
  refine ⟨(O.eraseIdx (atP O)).length, by omega, O.eraseIdx (atP O), X2, b2, c2, z - va, k + 1, rfl, o2, ?_, ?_, ?_, by omega, by omega, by omega, by omega, by omega, g6, hf6⟩
  · rcases hb2' with rfl | rfl <;> omega
  · exact hbl2
  · intro i x hi
    have hlt := hd _ _ hi
    rw [hkeep2 i (by omega) (by omega)]
    exact hkeep i x hi
theorem need_cl {h : H} {q n : Nat} {L : List Nat} {wr : Bool} (hd : ∀ i y, h.get i = some y → i < h.next) (hg : h.get q = some (.cells (nints L) 3, wr)) (h1 : 1 ≤ n) (hn : n ≤ L.sum) (hs : L.sum < 10000) (hl : L.length < 1000) :
    ClEq Try.prog (.func (.func 14) [] []) [slV q L.length, .int .i64 (n : Nat)] h (.int .i64 (ndP L.length L n : Nat)) h := Cl.of_sp (first := []) (cap := []) enters14 (Sp.forget rfl (need_sp hd hg h1 hn hs hl))
end Go.Proofs.Ytjhgomacanffkaa
