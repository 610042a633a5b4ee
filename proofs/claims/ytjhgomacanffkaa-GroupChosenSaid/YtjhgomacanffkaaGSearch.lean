/- group.best, take, search as contracts; the plain law of runs. -/
import Derived.Test.YtjhgomacanffkaaGHall
namespace Go.Proofs.Ytjhgomacanffkaa
open Go Sx Go.RowKit

noncomputable def l25 : List Code := flat (bodyC Try.prog 25)
theorem l25_eq : flat (bodyC Try.prog 25) = l25.take 2 ++ (.block 0 (.loop (loopAt l25 2)) :: l25.drop 3) := by kernel_rfl

abbrev rc (r : Nat × Nat) : List IV := [.int .i64 (r.1 : Nat), .int .i64 (r.2 : Nat)]
def oc25 (rb i : Nat) (L : List (Nat × Nat)) (wr : Bool) (r q : Nat × Nat) (n : Nat) (h h1 : H) (lt my bt : Bool) : Nat → Nat → Option It := fun f t => match f, t with
  | 25, 11 => some (.g (.int .i64 n) h)
  | 25, 13 => some (.w (.bool lt))
  | 25, 14 => some (.o (.ptr rb (i * 2)))
  | 25, 15 => some (.l (.agg (rc r)) (.cells (rcells L) 26, wr))
  | 25, 1009 => some (.t [.int .i64 0, .int .i64 0] 26 (rc r))
  | 25, 17 => some (.l (.agg (rc r)) (.cells (rc r) 26, true))
  | 25, 18 => some (.c (.bool my) h1)
  | 25, 24 => some (.l (.agg (rc r)) (.cells (rc r) 26, true))
  | 25, 25 => some (.l (.agg (rc q)) (.cells (rc q) 26, true))
  | 25, 26 => some (.c (.bool bt) h1)
  | 25, 29 => some (.l (.agg (rc r)) (.cells (rc r) 26, true))
  | 25, 31 => some (.l (.agg (rc q)) (.cells (rc q) 26, true))
  | 25, 1006 => some (.t (rc q) 26 (rc r))
  | 25, 30 => some (.w (.int .i64 ((i + 1 : Nat) : Int)))
  | _, _ => none
section
variable (h h1 : H) (g : Nat → IV) (lv fm fb : IV) (rb i n q6 : Nat) (L : List (Nat × Nat)) (wr : Bool) (r q : Nat × Nat)
def lv25 (lv fm fb : IV) (q6 n i : Nat) (is : Bool) : List IV := [fm, fb, .ptr q6 0, .bool is, lv, .int .i64 (n : Nat), .int .i64 (i : Nat)]
theorem pre25 : psR Try.prog tab (oc25 rb i L wr r q n (h.new (.cells [.int .i64 0, .int .i64 0] 26)) h1 true true true) 50 25 none 33 (l25.take 2) (canon 33 (fun j => [lv, fm, fb].getD j undefI) []) h [1, 2, 6, 7, 10, 11, 12] =
  some (.normal, lv25 lv fm fb h.next n 0 false, h.new (.cells [.int .i64 0, .int .i64 0] 26), [], [builtinI tab .len [53] [lv] (h.new (.cells [.int .i64 0, .int .i64 0] 26)) = some (.int .i64 n, h.new (.cells [.int .i64 0, .int .i64 0] 26))]) := by kernel_rfl
theorem r25_end (is : Bool) : pxR Try.prog tab (oc25 rb i L wr r q n h h1 false true true) 50 25 none 33 (loopAt l25 2) (canon 33 (ov [1, 2, 6, 7, 10, 11, 12] (lv25 lv fm fb q6 n i is) g) []) h [6, 7] =
  some (.exit 0, [.ptr q6 0, .bool is], h, [], [IV.bool (decide ((i : Int) < n)) = .bool false]) := by kernel_rfl
def mk25 (h : H) (r : Nat × Nat) : H := (h.new (.cells [.int .i64 0, .int .i64 0] 26)).put h.next (.cells (rc r) 26)
def o25 (h1 : H) : List Prop := [IV.bool (decide ((i : Int) < n)) = .bool true, indexAddrI tab 53 lv (.int .i64 i) = some (.ptr rb (i * 2)), h.get rb = some (.cells (rcells L) 26, wr), ldX (.cells (rcells L) 26, wr) true 2 (i * 2) = some (.agg (rc r)),
    (h.new (.cells [.int .i64 0, .int .i64 0] 26)).get h.next = some (.cells [.int .i64 0, .int .i64 0] 26, true), stC 2 [.int .i64 0, .int .i64 0] 0 (.agg (rc r)) = some (rc r),
    h1.get h.next = some (.cells (rc r) 26, true), ldX (.cells (rc r) 26, true) true 2 0 = some (.agg (rc r))]
def inc25 : List Prop := [IV.int .i64 (IntKind.wrap .i64 ((i : Int) + 1)) = .int .i64 ((i + 1 : Nat) : Int)]
theorem r25_no (is : Bool) : pxR Try.prog tab (oc25 rb i L wr r q n h (mk25 h r) true false true) 50 25 none 33 (loopAt l25 2) (canon 33 (ov [1, 2, 6, 7, 10, 11, 12] (lv25 lv fm fb q6 n i is) g) []) h [1, 2, 6, 7, 10, 11, 12] =
  some (.normal, lv25 lv fm fb q6 n (i + 1) is, mk25 h r, [], o25 h lv rb i n L wr r (mk25 h r) ++ [ClEq Try.prog fm [.agg (rc r)] (mk25 h r) (.bool false) (mk25 h r)] ++ inc25 i) := by kernel_rfl
theorem r25_first : pxR Try.prog tab (oc25 rb i L wr r q n h (mk25 h r) true true true) 50 25 none 33 (loopAt l25 2) (canon 33 (ov [1, 2, 6, 7, 10, 11, 12] (lv25 lv fm fb q6 n i false) g) []) h [1, 2, 6, 7, 10, 11, 12] =
  some (.normal, lv25 lv fm fb q6 n (i + 1) true, (mk25 h r).put q6 (.cells (rc r) 26), [], o25 h lv rb i n L wr r (mk25 h r) ++ [ClEq Try.prog fm [.agg (rc r)] (mk25 h r) (.bool true) (mk25 h r),
    (mk25 h r).get h.next = some (.cells (rc r) 26, true), ldX (.cells (rc r) 26, true) true 2 0 = some (.agg (rc r)), (mk25 h r).get q6 = some (.cells (rc q) 26, true), stC 2 (rc q) 0 (.agg (rc r)) = some (rc r)] ++ inc25 i) := by kernel_rfl
def o25b : List Prop := [ClEq Try.prog fm [.agg (rc r)] (mk25 h r) (.bool true) (mk25 h r), (mk25 h r).get h.next = some (.cells (rc r) 26, true), ldX (.cells (rc r) 26, true) true 2 0 = some (.agg (rc r)),
    (mk25 h r).get q6 = some (.cells (rc q) 26, true), ldX (.cells (rc q) 26, true) true 2 0 = some (.agg (rc q))]
theorem r25_worse : pxR Try.prog tab (oc25 rb i L wr r q n h (mk25 h r) true true false) 50 25 none 33 (loopAt l25 2) (canon 33 (ov [1, 2, 6, 7, 10, 11, 12] (lv25 lv fm fb q6 n i true) g) []) h [1, 2, 6, 7, 10, 11, 12] =
  some (.normal, lv25 lv fm fb q6 n (i + 1) true, mk25 h r, [], o25 h lv rb i n L wr r (mk25 h r) ++ o25b h fm q6 r q ++ [ClEq Try.prog fb [.agg (rc r), .agg (rc q)] (mk25 h r) (.bool false) (mk25 h r)] ++ inc25 i) := by kernel_rfl
theorem r25_better : pxR Try.prog tab (oc25 rb i L wr r q n h (mk25 h r) true true true) 50 25 none 33 (loopAt l25 2) (canon 33 (ov [1, 2, 6, 7, 10, 11, 12] (lv25 lv fm fb q6 n i true) g) []) h [1, 2, 6, 7, 10, 11, 12] =
  some (.normal, lv25 lv fm fb q6 n (i + 1) true, (mk25 h r).put q6 (.cells (rc r) 26), [], o25 h lv rb i n L wr r (mk25 h r) ++ o25b h fm q6 r q ++ [ClEq Try.prog fb [.agg (rc r), .agg (rc q)] (mk25 h r) (.bool true) (mk25 h r),
    (mk25 h r).get h.next = some (.cells (rc r) 26, true), ldX (.cells (rc r) 26, true) true 2 0 = some (.agg (rc r)), (mk25 h r).get q6 = some (.cells (rc q) 26, true), stC 2 (rc q) 0 (.agg (rc r)) = some (rc r)] ++ inc25 i) := by kernel_rfl
theorem post25 (is : Bool) : psR Try.prog tab (oc25 rb i L wr q q n h h1 true true true) 50 25 none 33 (l25.drop 3) (canon 33 (ov [6, 7] [.ptr q6 0, .bool is] g) []) h [6, 7] =
  some (.ret, [.ptr q6 0, .bool is], h.put q6 (.cells (rc q) 26), [], [h.get q6 = some (.cells (rc q) 26, true), ldX (.cells (rc q) 26, true) true 2 0 = some (.agg (rc q)), h.get q6 = some (.cells (rc q) 26, true), stC 2 (rc q) 0 (.agg (rc q)) = some (rc q)]) := by kernel_rfl
end

/-- The first one of which nothing better is told. -/
def bestP (may : Nat × Nat → Bool) (bet : Nat × Nat → Nat × Nat → Bool) (found : Option (Nat × Nat)) (x : Nat × Nat) : Option (Nat × Nat) :=
  if may x then (match found with
    | none => some x
    | some y => if bet x y then some x else some y) else found
def orZ : Option (Nat × Nat) → Nat × Nat
  | none => (0, 0)
  | some q => q

theorem rcells_get : ∀ (L : List (Nat × Nat)) (i : Nat) (r : Nat × Nat), L[i]? = some r → ∀ wr, ldX (.cells (rcells L) 26, wr) true 2 (i * 2) = some (.agg (rc r)) := by
  intro L i r h wr
  have hlt := (List.getElem?_eq_some_iff.1 h).1
  show ldC true 2 (rcells L) (i * 2) = _
  unfold ldC
  rw [show Nat.ble (i * 2 + 2) (rcells L).length = true by rw [rcells_length]; exact Nat.ble_eq_true_of_le (by omega)]
  simp only [cond_true]
  have hsplit : L = L.take i ++ r :: L.drop (i + 1) := by
    rw [List.getElem?_eq_getElem hlt] at h
    cases h
    simp
  have hl : (rcells (L.take i)).length = i * 2 := by rw [rcells_length, List.length_take, Nat.min_eq_left (by omega)]
  congr 2
  rw [hsplit, rcells_append, List.drop_left' hl]
  rfl

theorem best_sp {h : H} {fm fb : IV} {rb : Nat} {L : List (Nat × Nat)} {wr : Bool} (may : Nat × Nat → Bool) (bet : Nat × Nat → Nat × Nat → Bool) (hdom : ∀ i y, h.get i = some y → i < h.next) (hL : L.length < 1000)
    (hg : L.length = 0 ∨ h.get rb = some (.cells (rcells L) 26, wr))
    (hmay : ∀ h' r, (∀ i y, h.get i = some y → h'.get i = some y) → ClEq Try.prog fm [.agg (rc r)] h' (.bool (may r)) h')
    (hbet : ∀ h' r q, (∀ i y, h.get i = some y → h'.get i = some y) → ClEq Try.prog fb [.agg (rc r), .agg (rc q)] h' (.bool (bet r q)) h') :
    SpEq Try.prog 25 [slV rb L.length, fm, fb] h (.tup [.agg (rc (orZ (L.foldl (bestP may bet) none))), .bool (L.foldl (bestP may bet) none).isSome]) h := by
  refine Sp.forget rfl ?_
  refine Sp.of_ev tab_ok Try.func25 (c := bodyC Try.prog 25) (by kernel_rfl) (Nat.le_of_ble_eq_true rfl) ?_
  show Ev Try.prog none 33 (bodyC Try.prog 25) (BodyQ tab [.cell 6 26, .tmp 7] _) _ _
  refine Ev.of_flat l25_eq ?_
  refine EvS.px tab_ok mixed (FrIs.start 33 _) (by simp) (pre25 h h (slV rb L.length) fm fb rb 0 L.length L wr (0, 0) (0, 0)) ⟨len_slV t53d _ _ _, trivial⟩ fun fr g hf => ?_
  have hdom0 := dom_new (o := .cells [.int .i64 0, .int .i64 0] 26) hdom
  refine EvS.loop (fun m fr h' => ∃ i found, i ≤ L.length ∧ m = L.length - i ∧ (L.drop i).foldl (bestP may bet) found = L.foldl (bestP may bet) none ∧ (∀ i y, h.get i = some y → h'.get i = some y) ∧ h.next < h'.next ∧
      (∀ i y, h'.get i = some y → i < h'.next) ∧ h'.get h.next = some (.cells (rc (orZ found)) 26, true) ∧
      ∃ g, FrIs 33 fr (ov [1, 2, 6, 7, 10, 11, 12] (lv25 (slV rb L.length) fm fb h.next L.length i found.isSome) g) []) L.length
    ⟨0, none, by omega, by omega, rfl, fun i y hi => by rw [H.get_new, if_neg (by have := hdom _ _ hi; omega)]; exact hi, Nat.lt_succ_self _, hdom0, by rw [H.get_new, if_pos rfl]; rfl, g, hf⟩ ?_
  rintro m fr h' ⟨i, found, hi, rfl, hfold, hk, hn, hd, hq, g, hf⟩
  by_cases hlt : i < L.length
  case neg =>
    have hie : i = L.length := by omega
    subst hie
    refine Ev.px tab_ok mixed hf (r25_end h' h' g (slV rb L.length) fm fb rb L.length L.length h.next L wr (0, 0) (0, 0) found.isSome) ⟨by rw [decide_eq_false (by omega)], trivial⟩ fun fr2 g2 hf2 => ?_
    refine RoundEnds.out ?_
    rw [List.drop_length] at hfold
    simp only [List.foldl_nil] at hfold
    rw [← hfold]
    refine EvS.pxEnd tab_ok mixed hf2 (List.cons_ne_nil _ _) (post25 h' h' g2 rb 0 0 h.next L wr (orZ found) found.isSome) ⟨hq, rfl, hq, rfl, trivial⟩ fun fr3 g3 hf3 => ?_
    have e6 : fr3.tm.tmp 6 = .ptr h.next 0 := hf3.2 6 (by decide)
    have e7 : fr3.tm.tmp 7 = .bool found.isSome := hf3.2 7 (by decide)
    refine ⟨.inr rfl, h'.put h.next (.cells (rc (orZ found)) 26), [.agg (rc (orZ found)), .bool found.isSome], by rw [hf3.1]; rfl, ?_, rfl, fun i y hi => by rw [H.get_put, if_neg (by have := hdom _ _ hi; omega)]; exact hk _ _ hi⟩
    have e2' : (h'.put h.next (.cells (rc (orZ found)) 26)).get h.next = some (.cells (rc (orZ found)) 26, true) := by rw [H.get_put, if_pos rfl]
    have h1 : (tab.get 26).map (fun y => (y.size, aggD y.d)) = some (2, true) := by kernel_rfl
    simp only [resI, e6, e7]
    cases ht : tab.get 26 with
    | none => rw [ht] at h1; cases h1
    | some ty =>
      rw [ht] at h1
      simp only [Option.map_some, Option.some.injEq, Prod.mk.injEq] at h1
      simp only [h1.1, h1.2, loadI, e2', Option.map_some]
      rfl
  obtain ⟨r, hr⟩ : ∃ r, L[i]? = some r := ⟨L[i], by simp [hlt]⟩
  have hdrop : L.drop i = r :: L.drop (i + 1) := by
    rw [List.drop_eq_getElem_cons hlt]
    rw [List.getElem?_eq_getElem hlt] at hr
    cases hr; rfl
  rw [hdrop, List.foldl_cons] at hfold
  have hrb : h.get rb = some (.cells (rcells L) 26, wr) := hg.elim (fun e => by omega) id
  have hrbn := hdom _ _ hrb
  have km : ∀ j, j ≠ h'.next → (mk25 h' r).get j = h'.get j := fun j hj => by
    unfold mk25
    rw [H.get_put, if_neg (fun e => hj e.symm), H.get_new, if_neg (fun e => hj e.symm)]
  have kn : (mk25 h' r).get h'.next = some (.cells (rc r) 26, true) := by
    unfold mk25
    rw [H.get_put, if_pos rfl]
  have hk' : ∀ i y, h.get i = some y → (mk25 h' r).get i = some y := fun j y hj => by
    have := hdom _ _ hj
    rw [km j (by omega)]; exact hk _ _ hj
  have hnew : (h'.new (.cells [.int .i64 0, .int .i64 0] 26)).get h'.next = some (.cells [.int .i64 0, .int .i64 0] 26, true) := by rw [H.get_new, if_pos rfl]
  have hd' : ∀ i y, (mk25 h' r).get i = some y → i < (mk25 h' r).next := dom_put hnew (dom_new hd)
  have hq' : (mk25 h' r).get h.next = some (.cells (rc (orZ found)) 26, true) := by rw [km _ (by omega)]; exact hq
  have hix : indexAddrI tab 53 (slV rb L.length) (.int .i64 i) = some (.ptr rb (i * 2)) := by
    rw [slV_pos (by omega), ix_sl t53d t26s hlt]; simp
  have q1 : AllP (o25 h' (slV rb L.length) rb i L.length L wr r (mk25 h' r)) := ⟨by rw [decide_eq_true (by omega)], hix, hk _ _ hrb, rcells_get L i r hr wr, hnew, rfl, kn, rfl, trivial⟩
  have q2 : AllP (inc25 i) := ⟨w_i (by omega), trivial⟩
  have hm := hmay (mk25 h' r) r hk'
  have hnn : h.next < (mk25 h' r).next := by show h.next < h'.next + 1; omega
  have fin : ∀ fr2 g2 f2, f2 = bestP may bet found r → FrIs 33 fr2 (ov [1, 2, 6, 7, 10, 11, 12] (lv25 (slV rb L.length) fm fb h.next L.length (i + 1) f2.isSome) g2) [] → ∀ h2, (h2 = mk25 h' r ∧ f2 = found ∨ h2 = (mk25 h' r).put h.next (.cells (rc r) 26) ∧ f2 = some r) →
      ∃ m', m' < L.length - i ∧ ∃ i found, i ≤ L.length ∧ m' = L.length - i ∧ (L.drop i).foldl (bestP may bet) found = L.foldl (bestP may bet) none ∧ (∀ i y, h.get i = some y → h2.get i = some y) ∧ h.next < h2.next ∧
      (∀ i y, h2.get i = some y → i < h2.next) ∧ h2.get h.next = some (.cells (rc (orZ found)) 26, true) ∧
      ∃ g, FrIs 33 fr2 (ov [1, 2, 6, 7, 10, 11, 12] (lv25 (slV rb L.length) fm fb h.next L.length i found.isSome) g) [] := by
    intro fr2 g2 f2 hf2 hfr h2 hh
    refine ⟨L.length - (i + 1), by omega, i + 1, f2, by omega, rfl, by rw [hf2]; exact hfold, ?_⟩
    rcases hh with ⟨rfl, rfl⟩ | ⟨rfl, rfl⟩
    · exact ⟨hk', hnn, hd', hq', g2, hfr⟩
    · refine ⟨fun j y hj => ?_, hnn, dom_put hq' hd', by rw [H.get_put, if_pos rfl]; rfl, g2, hfr⟩
      have := hdom _ _ hj
      rw [H.get_put, if_neg (by omega)]
      exact hk' _ _ hj
  cases hmy : may r with
  | false =>
    rw [hmy] at hm
    refine Ev.px tab_ok mixed hf (r25_no h' g (slV rb L.length) fm fb rb i L.length h.next L wr r (0, 0) found.isSome) (AllP.mk_append (AllP.mk_append q1 ⟨hm, trivial⟩) q2) fun fr2 g2 hf2 => ?_
    exact fin fr2 g2 found (by simp [bestP, hmy]) hf2 _ (.inl ⟨rfl, rfl⟩)
  | true =>
    rw [hmy] at hm
    cases found with
    | none =>
      refine Ev.px tab_ok mixed hf (r25_first h' g (slV rb L.length) fm fb rb i L.length h.next L wr r (0, 0)) (AllP.mk_append (AllP.mk_append q1 ⟨hm, kn, rfl, hq', rfl, trivial⟩) q2) fun fr2 g2 hf2 => ?_
      exact fin fr2 g2 (some r) (by simp [bestP, hmy]) hf2 _ (.inr ⟨rfl, rfl⟩)
    | some q =>
      have hb := hbet (mk25 h' r) r q hk'
      have q3 : AllP (o25b h' fm h.next r q) := ⟨hm, kn, rfl, hq', rfl, trivial⟩
      cases hbt : bet r q with
      | false =>
        rw [hbt] at hb
        refine Ev.px tab_ok mixed hf (r25_worse h' g (slV rb L.length) fm fb rb i L.length h.next L wr r q) (AllP.mk_append (AllP.mk_append (AllP.mk_append q1 q3) ⟨hb, trivial⟩) q2) fun fr2 g2 hf2 => ?_
        exact fin fr2 g2 (some q) (by simp [bestP, hmy, hbt]) hf2 _ (.inl ⟨rfl, rfl⟩)
      | true =>
        rw [hbt] at hb
        refine Ev.px tab_ok mixed hf (r25_better h' g (slV rb L.length) fm fb rb i L.length h.next L wr r q) (AllP.mk_append (AllP.mk_append (AllP.mk_append q1 q3) ⟨hb, kn, rfl, hq', rfl, trivial⟩) q2) fun fr2 g2 hf2 => ?_
        exact fin fr2 g2 (some r) (by simp [bestP, hmy, hbt]) hf2 _ (.inr ⟨rfl, rfl⟩)
end Go.Proofs.Ytjhgomacanffkaa
namespace Go.Proofs.Ytjhgomacanffkaa
open Go Sx Go.RowKit

theorem enters24 : Go.Proofs.Enters Try.prog 24 := Go.Proofs.enters_of Try.func24 (by kernel_rfl) rfl
theorem enters25 : Go.Proofs.Enters Try.prog 25 := Go.Proofs.enters_of Try.func25 (by kernel_rfl) rfl
theorem enters26 : Go.Proofs.Enters Try.prog 26 := Go.Proofs.enters_of Try.func26 (by kernel_rfl) rfl
theorem enters27 : Go.Proofs.Enters Try.prog 27 := Go.Proofs.enters_of Try.func27 (by kernel_rfl) rfl
theorem enters28 : Go.Proofs.Enters Try.prog 28 := Go.Proofs.enters_of Try.func28 (by kernel_rfl) rfl
theorem enters29 : Go.Proofs.Enters Try.prog 29 := Go.Proofs.enters_of Try.func29 (by kernel_rfl) rfl
abbrev b24 (n : Nat) : Bx := .cells [.int .i64 (n : Nat)] 3
theorem run24 (r : Nat × Nat) (n : Nat) : pfR Try.prog tab (fun _ _ => none) 50 24 [.agg (rc r), .ptr 0 0] (boxH [b24 n]) =
  some (.bool (decide ((r.2 : Int) ≥ n)), (boxH [b24 n]).new (.cells (rc r) 26), []) := by kernel_rfl
theorem run26 (r q : Nat × Nat) : pfR Try.prog tab (fun _ _ => none) 50 26 [.agg (rc r), .agg (rc q)] (boxH []) =
  some (.bool (decide ((r.2 : Int) < q.2)), ((boxH []).new (.cells (rc r) 26)).new (.cells (rc q) 26), []) := by kernel_rfl
theorem run28 (r : Nat × Nat) : pfR Try.prog tab (fun _ _ => none) 50 28 [.agg (rc r)] (boxH []) = some (.bool true, (boxH []).new (.cells (rc r) 26), []) := by kernel_rfl
theorem run29 (r q : Nat × Nat) : pfR Try.prog tab (fun _ _ => none) 50 29 [.agg (rc r), .agg (rc q)] (boxH []) =
  some (.bool (decide ((r.2 : Int) > q.2)), ((boxH []).new (.cells (rc r) 26)).new (.cells (rc q) 26), []) := by kernel_rfl

theorem cl24 (r : Nat × Nat) (n : Nat) {h : H} {b : Nat} {wr : Bool} (hb : h.get b = some (b24 n, wr)) : ClEq Try.prog (.func (.func 24) [] [.ptr b 0]) [.agg (rc r)] h (.bool (decide (n ≤ r.2))) h := by
  refine Cl.of_sp (first := []) (cap := [.ptr b 0]) enters24 ?_
  have := Sp.bigF (bs := [b24 n]) rfl rfl rfl (Sp.px tab_ok mixed (run24 r n) trivial) (H0 := h) (fun _ => b) (fun i o ho => by
    cases i with
    | zero => simp at ho; subst ho; exact ⟨wr, hb⟩
    | succ i => simp at ho) (fun i j hi hj _ => by simp at hi hj; omega)
  rw [show decide ((r.2 : Int) ≥ n) = decide (n ≤ r.2) by rw [Bool.eq_iff_iff, decide_eq_true_iff, decide_eq_true_iff]; omega] at this
  exact this
theorem cl26 (r q : Nat × Nat) (h : H) : ClEq Try.prog (.func (.func 26) [] []) [.agg (rc r), .agg (rc q)] h (.bool (decide (r.2 < q.2))) h := by
  refine Cl.of_sp (first := []) (cap := []) enters26 ?_
  have := Sp.bigF (bs := []) rfl rfl rfl (Sp.px tab_ok mixed (run26 r q) trivial) (H0 := h) id (fun i o ho => by simp at ho) (fun i j hi hj _ => by simp at hi)
  rw [show decide ((r.2 : Int) < q.2) = decide (r.2 < q.2) by rw [Bool.eq_iff_iff, decide_eq_true_iff, decide_eq_true_iff]; omega] at this
  exact this
theorem cl28 (r : Nat × Nat) (h : H) : ClEq Try.prog (.func (.func 28) [] []) [.agg (rc r)] h (.bool true) h := by
  refine Cl.of_sp (first := []) (cap := []) enters28 ?_
  exact Sp.bigF (bs := []) rfl rfl rfl (Sp.px tab_ok mixed (run28 r) trivial) (H0 := h) id (fun i o ho => by simp at ho) (fun i j hi hj _ => by simp at hi)
theorem cl29 (r q : Nat × Nat) (h : H) : ClEq Try.prog (.func (.func 29) [] []) [.agg (rc r), .agg (rc q)] h (.bool (decide (q.2 < r.2))) h := by
  refine Cl.of_sp (first := []) (cap := []) enters29 ?_
  have := Sp.bigF (bs := []) rfl rfl rfl (Sp.px tab_ok mixed (run29 r q) trivial) (H0 := h) id (fun i o ho => by simp at ho) (fun i j hi hj _ => by simp at hi)
  rw [show decide ((r.2 : Int) > q.2) = decide (q.2 < r.2) by rw [Bool.eq_iff_iff, decide_eq_true_iff, decide_eq_true_iff]; omega] at this
  exact this

/-! ### take -/
noncomputable def l27 : List Code := flat (bodyC Try.prog 27)
theorem l27_eq : flat (bodyC Try.prog 27) = l27.take 2 ++ (.block 0 (.loop (loopAt l27 2)) :: l27.drop 3) := by kernel_rfl
def takeP (a m : Nat) : List Nat := (List.range m).map fun k => a + k
def oc27 (r : Nat × Nat) (m k : Nat) (v : IV) (h2 : H) (lt : Bool) : Nat → Nat → Option It := fun f t => match f, t with
  | 27, 9 => some (.w (.int .i64 (m : Nat)))
  | 27, 11 => some (.w (.bool lt))
  | 27, 15 => some (.l (.int .i64 (r.1 : Nat)) (.cells (rc r) 26, true))
  | 27, 17 => some (.w (.int .i64 ((r.1 + k : Nat) : Int)))
  | 27, 19 => some (.g v h2)
  | 27, 20 => some (.w (.int .i64 ((k + 1 : Nat) : Int)))
  | _, _ => none
section
variable (h h2 : H) (g : Nat → IV) (r : Nat × Nat) (n m k : Nat) (lv v : IV)
theorem pre27 : psR Try.prog tab (oc27 r m k v h2 true) 50 27 none 22 (l27.take 2) (canon 22 (fun j => [IV.agg (rc r), .int .i64 (n : Nat)].getD j undefI) []) (boxH []) [2, 4, 9, 10] =
  some (.normal, [.ptr 0 0, .nilslice, .int .i64 (m : Nat), .int .i64 (0 : Nat)], (boxH []).new (.cells (rc r) 26), [], [IV.int .i64 (if (r.2 : Int) < n then r.2 else n) = .int .i64 (m : Nat)]) := by kernel_rfl
theorem r27_end : pxR Try.prog tab (oc27 r m k v h2 false) 50 27 none 22 (loopAt l27 2) (canon 22 (ov [2, 4, 9, 10] [.ptr 0 0, lv, .int .i64 (m : Nat), .int .i64 (k : Nat)] g) []) h [4] =
  some (.exit 0, [lv], h, [], [IV.bool (decide ((k : Int) < m)) = .bool false]) := by kernel_rfl
theorem r27_go : pxR Try.prog tab (oc27 r m k v h2 true) 50 27 none 22 (loopAt l27 2) (canon 22 (ov [2, 4, 9, 10] [.ptr 0 0, lv, .int .i64 (m : Nat), .int .i64 (k : Nat)] g) []) h [2, 4, 9, 10] =
  some (.normal, [.ptr 0 0, v, .int .i64 (m : Nat), .int .i64 ((k + 1 : Nat) : Int)], h2, [], [IV.bool (decide ((k : Int) < m)) = .bool true, h.get 0 = some (.cells (rc r) 26, true), ldX (.cells (rc r) 26, true) false 1 0 = some (.int .i64 (r.1 : Nat)),
    IV.int .i64 (IntKind.wrap .i64 ((r.1 : Int) + k)) = .int .i64 ((r.1 + k : Nat) : Int), builtinI tab .append [27, 27] [lv, .slice h.next 0 1 (.hard 1)] (h.new (.cells [.int .i64 ((r.1 + k : Nat) : Int)] 3)) = some (v, h2),
    IV.int .i64 (IntKind.wrap .i64 ((k : Int) + 1)) = .int .i64 ((k + 1 : Nat) : Int)]) := by kernel_rfl
theorem post27 : psR Try.prog tab (oc27 r m k v h2 false) 50 27 none 22 (l27.drop 3) (canon 22 (ov [4] [lv] g) []) h [4] = some (.ret, [lv], h, [], []) := by kernel_rfl
end

def nints (l : List Nat) : List IV := l.map fun (a : Nat) => .int .i64 (a : Int)
theorem nints_length (l : List Nat) : (nints l).length = l.length := by simp [nints]
theorem nints_eq (l : List Nat) : nints l = ints (l.map fun (a : Nat) => (a : Int)) := by simp [nints, ints]
theorem nints_flat (l : List Nat) : flatL (nints l) = true := by rw [nints_eq]; exact flat_ints _
theorem takeP_length (a m : Nat) : (takeP a m).length = m := by simp [takeP]

theorem take_sp (r : Nat × Nat) (n : Nat) (hr : r.1 + r.2 ≤ 1000) :
    Sp Try.prog 27 [.agg (rc r), .int .i64 (n : Nat)] (boxH []) fun v' h' => ∃ s, v' = slV s (min n r.2) ∧ (min n r.2 = 0 ∨ (h'.get s = some (.cells (nints (takeP r.1 (min n r.2))) 3, true) ∧ ([] : List Bx).length ≤ s)) ∧
      ∀ i y, (boxH []).get i = some y → h'.get i = some y := by
  refine Sp.of_ev tab_ok Try.func27 (c := bodyC Try.prog 27) (by kernel_rfl) (Nat.le_of_ble_eq_true rfl) ?_
  show Ev Try.prog none 22 (bodyC Try.prog 27) (BodyQ tab [.tmp 4] _) _ _
  refine Ev.of_flat l27_eq ?_
  have hmin : IV.int .i64 (if (r.2 : Int) < n then r.2 else n) = .int .i64 ((min n r.2 : Nat) : Int) := by
    congr 1
    split
    · rw [Nat.min_eq_right (by omega)]
    · rw [Nat.min_eq_left (by omega)]
  refine EvS.px tab_ok mixed (FrIs.start 22 _) (by simp) (pre27 (boxH []) r n (min n r.2) 0 .nilslice) ⟨hmin, trivial⟩ fun fr g hf => ?_
  have hm : min n r.2 ≤ r.2 := Nat.min_le_right _ _
  generalize hmm : min n r.2 = m at *
  refine EvS.loop (fun t fr h => ∃ k s, k ≤ m ∧ t = m - k ∧ h.get 0 = some (.cells (rc r) 26, true) ∧ (∀ i y, h.get i = some y → i < h.next) ∧ 0 < h.next ∧ (k = 0 ∨ (s ≠ 0 ∧ s < h.next ∧ h.get s = some (.cells (nints (takeP r.1 k)) 3, true))) ∧
      ∃ g, FrIs 22 fr (ov [2, 4, 9, 10] [.ptr 0 0, slV s k, .int .i64 (m : Nat), .int .i64 (k : Nat)] g) []) m
    ⟨0, 0, by omega, by omega, rfl, dom_new dom_boxH, Nat.zero_lt_one, .inl rfl, g, hf⟩ ?_
  rintro t fr h ⟨k, s, hk, rfl, h0, hd, hn0, hs, g, hf⟩
  by_cases hlt : k < m
  case neg =>
    obtain rfl : k = m := by omega
    refine Ev.px tab_ok mixed hf (r27_end h h g r k k (slV s k) .nilslice) ⟨by rw [decide_eq_false (by omega)], trivial⟩ fun fr2 g2 hf2 => ?_
    refine RoundEnds.out ?_
    refine EvS.pxEnd tab_ok mixed hf2 (List.cons_ne_nil _ _) (post27 h h g2 r 0 0 (slV s k) .nilslice) trivial fun fr3 g3 hf3 => ?_
    have e4 : fr3.tm.tmp 4 = slV s k := hf3.2 4 (by decide)
    refine ⟨.inr rfl, h, [slV s k], by rw [hf3.1]; rfl, by simp only [resI, e4, Option.map_some], s, rfl, hs.imp id fun ⟨_, _, a⟩ => ⟨a, Nat.zero_le _⟩, fun i y hi => ?_⟩
    rw [boxH_get] at hi; simp at hi
  have hcs : (nints (takeP r.1 k)).length = k * 1 := by rw [nints_length, takeP_length, Nat.mul_one]
  have hs' : k = 0 ∨ (h.new (.cells [.int .i64 ((r.1 + k : Nat) : Int)] 3)).get s = some (.cells (nints (takeP r.1 k)) 3, true) := by
    rcases hs with e | ⟨_, e2, e⟩
    · exact .inl e
    · exact .inr (by rw [H.get_new, if_neg (by omega)]; exact e)
  have hnn : (h.new (.cells [.int .i64 ((r.1 + k : Nat) : Int)] 3)).get h.next = some (.cells [.int .i64 ((r.1 + k : Nat) : Int)] 3, true) := by rw [H.get_new, if_pos rfl]
  obtain ⟨h2, ha, hnx, hnew, hold⟩ := app_one t27d t3i (by decide) (by decide) (by omega) hcs hs' hnn (c := .hard 1) rfl rfl
  rw [H.next_new] at ha hnx hnew hold
  refine Ev.px tab_ok mixed hf (r27_go h h2 g r m k (slV s k) (slV (h.next + 1) (k + 1))) ⟨by rw [decide_eq_true (by omega)], h0, rfl, by rw [wrap64 (by omega) (by omega)]; rfl, ha, w_i (by omega), trivial⟩ fun fr2 g2 hf2 => ?_
  have s0 : k = 0 ∨ 0 ≠ s := hs.imp id fun ⟨e, _, _⟩ => fun e' => e e'.symm
  refine ⟨m - (k + 1), by omega, k + 1, h.next + 1, by omega, rfl, ?_, ?_, by omega, .inr ⟨by omega, by omega, ?_⟩, g2, hf2⟩
  · rw [hold 0 (by omega) s0, H.get_new, if_neg (by omega)]; exact h0
  · intro i y hi
    by_cases e : i = h.next + 1
    · omega
    · by_cases en : i = h.next
      · omega
      · rcases Nat.eq_zero_or_pos k with hz | hz
        · rw [hold i e (.inl hz), H.get_new, if_neg (fun e => en e.symm)] at hi
          have := hd _ _ hi
          omega
        · by_cases es : i = s
          · rcases hs with e | ⟨_, e2, _⟩ <;> omega
          · rw [hold i e (.inr es), H.get_new, if_neg (fun e => en e.symm)] at hi
            have := hd _ _ hi
            omega
  · rw [hnew]
    simp [takeP, nints, List.range_succ]

theorem take_cl (r : Nat × Nat) (n : Nat) (hr : r.1 + r.2 ≤ 1000) (h : H) : ClEq Try.prog (.func (.func 27) [] []) [.agg (rc r), .int .i64 (n : Nat)] h (slV h.next (min n r.2)) (newL h (min n r.2) (nints (takeP r.1 (min n r.2))) 3) := by
  refine Cl.of_sp (first := []) (cap := []) enters27 ?_
  exact Sp.list (bs := []) rfl rfl (nints_flat _) (take_sp r n hr) (H0 := h) id (fun i o ho => by simp at ho) (fun i j hi hj _ => by simp at hi)
end Go.Proofs.Ytjhgomacanffkaa
namespace Go.Proofs.Ytjhgomacanffkaa
open Go Sx Go.RowKit

/-! ### Seats rise -/
theorem rowS_pw (i : Nat) (r : Int × Int) : ∀ k p, (rowS i r k p).Pairwise fun a b => a.1 < b.1
  | 0, _ => List.Pairwise.nil
  | k + 1, p => by
    simp only [rowS]
    rw [List.pairwise_append]
    refine ⟨by split <;> simp, rowS_pw i r k (p + 1), fun a ha b hb => ?_⟩
    have := rowS_range i r k (p + 1) b hb
    split at ha
    · simp at ha; subst ha; simp only; omega
    · simp at ha
theorem allS_pw : ∀ (rs : List (Int × Int)) (i : Nat), (allS rs i).Pairwise fun a b => a.1 < b.1
  | [], _ => List.Pairwise.nil
  | r :: rs, i => by
    simp only [allS]
    rw [List.pairwise_append]
    refine ⟨rowS_pw i r 8 0, allS_pw rs (i + 1), fun a ha b hb => ?_⟩
    have := rowS_range i r 8 0 a ha
    have := allS_range rs (i + 1) b hb
    omega

def free (rs : List (Int × Int)) (c : Int) (tk : Nat → Bool) : List Nat := ((allS rs 0).filter fun a => decide (a.2 = c ∧ tk a.1 = false)).map fun a => a.1
theorem free_pw (rs : List (Int × Int)) (c : Int) (tk : Nat → Bool) : (free rs c tk).Pairwise fun a b => a < b := by
  unfold free
  rw [List.pairwise_map]
  exact (allS_pw rs 0).filter _
theorem free_nodup (rs : List (Int × Int)) (c : Int) (tk : Nat → Bool) : (free rs c tk).Nodup := (free_pw rs c tk).imp fun h e => by omega
theorem mem_free {rs : List (Int × Int)} {c : Int} {tk : Nat → Bool} {s : Nat} : s ∈ free rs c tk ↔ (s, c) ∈ allS rs 0 ∧ tk s = false := by
  unfold free
  simp only [List.mem_map, List.mem_filter, decide_eq_true_eq]
  constructor
  · rintro ⟨a, ⟨h1, h2, h3⟩, rfl⟩
    refine ⟨?_, h3⟩
    rw [← h2]; exact h1
  · rintro ⟨h1, h2⟩
    exact ⟨(s, c), ⟨h1, rfl, h2⟩, rfl⟩
theorem free_lt {rs : List (Int × Int)} {c : Int} {tk : Nat → Bool} (h8 : rs.length ≤ 8) {s : Nat} (h : s ∈ free rs c tk) : s < 64 := by
  have := allS_range rs 0 _ (mem_free.1 h).1
  omega

/-! ### Runs -/
def runF (l : List (Nat × Nat)) : List Nat := l.flatMap fun r => takeP r.1 r.2
theorem runF_append (a b : List (Nat × Nat)) : runF (a ++ b) = runF a ++ runF b := by simp [runF]
theorem takeP_succ (a n : Nat) : takeP a (n + 1) = takeP a n ++ [a + n] := by simp [takeP, List.range_succ]
theorem mem_takeP {a n s : Nat} : s ∈ takeP a n ↔ a ≤ s ∧ s < a + n := by
  simp only [takeP, List.mem_map, List.mem_range]
  constructor
  · rintro ⟨k, h, rfl⟩; omega
  · rintro ⟨h1, h2⟩; exact ⟨s - a, by omega, by omega⟩

theorem takeP_nodup (a n : Nat) : (takeP a n).Nodup := List.pairwise_map.2 (List.nodup_range.imp fun h e => h (by omega))

theorem rstep_F (c : Int) (tk : Nat → Bool) (st : RSt) (a : Nat × Int) : runF (runL (rstep c tk st a)) = runF (runL st) ++ (if a.2 = c ∧ tk a.1 = false then [a.1] else []) := by
  unfold rstep
  by_cases hs : a.2 = c ∧ tk a.1 = false
  · rw [if_pos hs, if_pos hs]
    obtain ⟨l, cur⟩ := st
    cases cur with
    | none => simp [runL, runF, takeP]
    | some q =>
      obtain ⟨b, n⟩ := q
      simp only
      by_cases hy : a.1 = b + n ∧ a.1 % 8 ≠ 0
      · rw [if_pos hy]
        simp only [runL, Option.toList_some, runF_append]
        simp only [runF, List.flatMap_cons, List.flatMap_nil, List.append_nil, takeP_succ, hy.1, List.append_assoc]
      · rw [if_neg hy]
        simp only [runL, Option.toList_some, runF_append]
        simp [runF, takeP]
  · rw [if_neg hs, if_neg hs, List.append_nil]
theorem runs_flat (rs : List (Int × Int)) (c : Int) (tk : Nat → Bool) : runF (runs rs c tk) = free rs c tk := by
  unfold runs free runsSt
  suffices h : ∀ (S : List (Nat × Int)) (st : RSt), runF (runL (S.foldl (rstep c tk) st)) = runF (runL st) ++ (S.filter fun a => decide (a.2 = c ∧ tk a.1 = false)).map fun a => a.1 by
    have := h (allS rs 0) ([], none)
    simpa [runL, runF] using this
  intro S
  induction S with
  | nil => intro st; simp
  | cons a S ih =>
    intro st
    rw [List.foldl_cons, ih, rstep_F, List.filter_cons]
    by_cases hs : a.2 = c ∧ tk a.1 = false
    · simp [hs]
    · simp [hs]
theorem runs_pos (rs : List (Int × Int)) (c : Int) (tk : Nat → Bool) : ∀ r ∈ runs rs c tk, 1 ≤ r.2 := by
  unfold runs runsSt
  suffices h : ∀ (S : List (Nat × Int)) (st : RSt), (∀ r ∈ runL st, 1 ≤ r.2) → ∀ r ∈ runL (S.foldl (rstep c tk) st), 1 ≤ r.2 by
    exact h (allS rs 0) ([], none) (by simp [runL])
  intro S
  induction S with
  | nil => intro st h; exact h
  | cons a S ih =>
    intro st h
    rw [List.foldl_cons]
    refine ih _ ?_
    unfold rstep
    split
    · obtain ⟨l, cur⟩ := st
      cases cur with
      | none =>
        simp only [runL, Option.toList_some, List.mem_append, List.mem_singleton] at h ⊢
        rintro r (hr | rfl)
        · exact h r (.inl hr)
        · exact Nat.le_refl _
      | some q =>
        obtain ⟨b, n⟩ := q
        simp only [runL, Option.toList_some, List.mem_append, List.mem_singleton] at h ⊢
        have hn := h (b, n) (.inr rfl)
        simp only at hn
        split
        · simp only [Option.toList_some, List.mem_append, List.mem_singleton]
          rintro r (hr | rfl)
          · exact h r (.inl hr)
          · simp only; omega
        · simp only [Option.toList_some, List.mem_append, List.mem_singleton]
          rintro r ((hr | rfl) | rfl)
          · exact h r (.inl hr)
          · simp only; omega
          · exact Nat.le_refl _
    · exact h

theorem run_sub {L : List (Nat × Nat)} {r : Nat × Nat} (h : r ∈ L) : ∃ a b, runF L = a ++ takeP r.1 r.2 ++ b := by
  obtain ⟨s, t, rfl⟩ := List.append_of_mem h
  refine ⟨runF s, runF t, ?_⟩
  rw [runF_append]
  simp [runF]

/-! ### best -/
theorem best_mem {may : Nat × Nat → Bool} {bet : Nat × Nat → Nat × Nat → Bool} : ∀ (L : List (Nat × Nat)) (f : Option (Nat × Nat)) (r : Nat × Nat), L.foldl (bestP may bet) f = some r → (r ∈ L ∧ may r = true) ∨ f = some r
  | [], f, r, h => .inr h
  | x :: L, f, r, h => by
    rw [List.foldl_cons] at h
    rcases best_mem L _ r h with h1 | h1
    · exact .inl ⟨List.mem_cons_of_mem _ h1.1, h1.2⟩
    · unfold bestP at h1
      split at h1
      · next hm =>
        cases f with
        | none => simp only [Option.some.injEq] at h1; subst h1; exact .inl ⟨List.mem_cons_self .., hm⟩
        | some y =>
          simp only at h1
          split at h1
          · simp only [Option.some.injEq] at h1; subst h1; exact .inl ⟨List.mem_cons_self .., hm⟩
          · exact .inr h1
      · exact .inr h1
theorem best_none {may : Nat × Nat → Bool} {bet : Nat × Nat → Nat × Nat → Bool} : ∀ (L : List (Nat × Nat)) (f : Option (Nat × Nat)), L.foldl (bestP may bet) f = none → f = none ∧ ∀ r ∈ L, may r = false
  | [], f, h => ⟨h, by simp⟩
  | x :: L, f, h => by
    rw [List.foldl_cons] at h
    obtain ⟨h1, h2⟩ := best_none L _ h
    unfold bestP at h1
    split at h1
    · next hm =>
      cases f with
      | none => cases h1
      | some y => simp only at h1; split at h1 <;> cases h1
    · next hm =>
      refine ⟨h1, fun r hr => ?_⟩
      rcases List.mem_cons.1 hr with rfl | hr
      · simpa using hm
      · exact h2 r hr

/-! ### search -/
def mark (tk : Nat → Bool) (l : List Nat) : Nat → Bool := fun j => tk j || decide (j ∈ l)
def fitP (L : List (Nat × Nat)) (n : Nat) : Option (Nat × Nat) := L.foldl (bestP (fun r => decide (n ≤ r.2)) fun x y => decide (x.2 < y.2)) none
def longP (L : List (Nat × Nat)) : Option (Nat × Nat) := L.foldl (bestP (fun _ => true) fun x y => decide (y.2 < x.2)) none
def searchP (rs : List (Int × Int)) (c : Int) : Nat → (Nat → Bool) → Nat → List Nat
  | 0, _, _ => []
  | f + 1, tk, n => match fitP (runs rs c tk) n with
    | some r => takeP r.1 n
    | none => match longP (runs rs c tk) with
      | none => []
      | some r => takeP r.1 r.2 ++ searchP rs c f (mark tk (takeP r.1 r.2)) (n - r.2)

theorem fit_some {L : List (Nat × Nat)} {n : Nat} {r : Nat × Nat} (h : fitP L n = some r) : r ∈ L ∧ n ≤ r.2 := by
  rcases best_mem L _ r h with h1 | h1
  · exact ⟨h1.1, by simpa using h1.2⟩
  · cases h1
theorem fit_none {L : List (Nat × Nat)} {n : Nat} (h : fitP L n = none) : ∀ r ∈ L, r.2 < n := fun r hr => by
  have := (best_none L _ h).2 r hr
  simpa using this
theorem long_some {L : List (Nat × Nat)} {r : Nat × Nat} (h : longP L = some r) : r ∈ L := by
  rcases best_mem L _ r h with h1 | h1
  · exact h1.1
  · cases h1
theorem long_none {L : List (Nat × Nat)} (h : longP L = none) : L = [] := by
  cases L with
  | nil => rfl
  | cons x L => have := (best_none (x :: L) _ h).2 x (List.mem_cons_self ..); cases this

theorem free_mark (rs : List (Int × Int)) (c : Int) (tk : Nat → Bool) (l : List Nat) : free rs c (mark tk l) = (free rs c tk).filter fun s => !decide (s ∈ l) := by
  unfold free mark
  rw [List.filter_map, List.filter_filter]
  congr 1
  refine List.filter_congr fun a _ => ?_
  simp only [Function.comp]
  rw [Bool.eq_iff_iff]
  simp only [decide_eq_true_eq, Bool.and_eq_true, Bool.or_eq_false_iff, decide_eq_false_iff_not, Bool.not_eq_true', ]
  constructor
  · rintro ⟨h1, h2, h3⟩; exact ⟨h3, h1, h2⟩
  · rintro ⟨h3, h1, h2⟩; exact ⟨h1, h2, h3⟩
theorem free_mark_run {rs : List (Int × Int)} {c : Int} {tk : Nat → Bool} {r : Nat × Nat} (h : r ∈ runs rs c tk) : (free rs c (mark tk (takeP r.1 r.2))).length + r.2 = (free rs c tk).length := by
  obtain ⟨a, b, hab⟩ := run_sub h
  rw [runs_flat] at hab
  have hn := free_nodup rs c tk
  rw [free_mark]
  rw [hab] at hn ⊢
  rw [List.append_assoc] at hn
  have hn1 := List.nodup_append.1 hn
  have hn2 := List.nodup_append.1 hn1.2.1
  rw [List.filter_append, List.filter_append]
  have fa : (a.filter fun s => !decide (s ∈ takeP r.1 r.2)) = a := List.filter_eq_self.2 fun s hs => by
    simp only [Bool.not_eq_true', decide_eq_false_iff_not]
    exact fun hm => hn1.2.2 s hs s (List.mem_append_left _ hm) rfl
  have fb : (b.filter fun s => !decide (s ∈ takeP r.1 r.2)) = b := List.filter_eq_self.2 fun s hs => by
    simp only [Bool.not_eq_true', decide_eq_false_iff_not]
    exact fun hm => hn2.2.2 s hm s hs rfl
  have ft : ((takeP r.1 r.2).filter fun s => !decide (s ∈ takeP r.1 r.2)) = [] := List.filter_eq_nil_iff.2 fun s hs => by simp [hs]
  rw [fa, fb, ft]
  simp only [List.length_append, List.length_nil, takeP_length]
  omega
theorem run_free {rs : List (Int × Int)} {c : Int} {tk : Nat → Bool} {r : Nat × Nat} (h : r ∈ runs rs c tk) {s : Nat} (hs : s ∈ takeP r.1 r.2) : s ∈ free rs c tk := by
  obtain ⟨a, b, hab⟩ := run_sub h
  rw [runs_flat] at hab
  rw [hab]
  simp [hs]
theorem run_lt {rs : List (Int × Int)} {c : Int} {tk : Nat → Bool} (h8 : rs.length ≤ 8) {r : Nat × Nat} (h : r ∈ runs rs c tk) : r.1 + r.2 ≤ 64 := by
  have hp := runs_pos rs c tk r h
  have := free_lt h8 (run_free h (s := r.1 + r.2 - 1) (mem_takeP.2 ⟨by omega, by omega⟩))
  omega

/-- What search takes: so many, free, no seat twice. -/
theorem search_ok (rs : List (Int × Int)) (c : Int) : ∀ (f n : Nat) (tk : Nat → Bool), n ≤ f → n ≤ (free rs c tk).length → (searchP rs c f tk n).length = n ∧ (searchP rs c f tk n).Nodup ∧ ∀ s ∈ searchP rs c f tk n, s ∈ free rs c tk
  | 0, n, tk, hf, _ => by
    have : n = 0 := by omega
    subst this
    exact ⟨rfl, List.nodup_nil, fun s hs => nomatch hs⟩
  | f + 1, n, tk, hf, hn => by
    unfold searchP
    cases h1 : fitP (runs rs c tk) n with
    | some r =>
      obtain ⟨hm, hle⟩ := fit_some h1
      refine ⟨takeP_length _ _, ?_, fun s hs => run_free hm (mem_takeP.2 ?_)⟩
      · exact takeP_nodup _ _
      · have := mem_takeP.1 hs; omega
    | none =>
      have hlt := fit_none h1
      simp only
      cases h2 : longP (runs rs c tk) with
      | none =>
        have he := long_none h2
        have hfl := runs_flat rs c tk
        rw [he] at hfl
        rw [← hfl] at hn
        simp [runF] at hn
        subst hn
        exact ⟨rfl, List.nodup_nil, fun s hs => nomatch hs⟩
      | some r =>
        have hm := long_some h2
        have hr := hlt r hm
        have hp := runs_pos rs c tk r hm
        have hl := free_mark_run hm
        obtain ⟨i1, i2, i3⟩ := search_ok rs c f (n - r.2) (mark tk (takeP r.1 r.2)) (by omega) (by omega)
        simp only
        refine ⟨by rw [List.length_append, takeP_length, i1]; omega, ?_, ?_⟩
        · rw [List.nodup_append]
          refine ⟨?_, i2, fun a ha b hb e => ?_⟩
          · exact takeP_nodup _ _
          · subst e
            have := i3 a hb
            rw [free_mark, List.mem_filter] at this
            simp [ha] at this
        · intro s hs
          rcases List.mem_append.1 hs with hs | hs
          · exact run_free hm hs
          · have := i3 s hs
            rw [free_mark, List.mem_filter] at this
            exact this.1
end Go.Proofs.Ytjhgomacanffkaa
namespace Go.Proofs.Ytjhgomacanffkaa
open Go Sx Go.RowKit

noncomputable def l17 : List Code := flat (bodyC Try.prog 17)
theorem l17_eq : flat (bodyC Try.prog 17) = l17.take 12 ++ (.block 0 (.loop (loopAt l17 12)) :: l17.drop 13) := by kernel_rfl
theorem enters17 : Go.Proofs.Enters Try.prog 17 := Go.Proofs.enters_of Try.func17 (by kernel_rfl) rfl

def hS (x : Bx) (hv : IV) (tk : Nat → Bool) (n : Nat) : H := (((boxH [x]).new (.cells [hv] 24)).new (.cells (tkL tk) 25)).new (.cells [.int .i64 (n : Nat)] 3)
def hS4 (x : Bx) (hv : IV) (tk : Nat → Bool) (n : Nat) (L : List (Nat × Nat)) : H := (hS x hv tk n).new (.cells (rcells L) 26)
def hS5 (x : Bx) (hv : IV) (tk : Nat → Bool) (n : Nat) (L : List (Nat × Nat)) (q : Nat × Nat) : H := (hS4 x hv tk n L).new (.cells (rc q) 26)
def hS6 (x : Bx) (hv : IV) (tk : Nat → Bool) (n : Nat) (L : List (Nat × Nat)) (q r : Nat × Nat) : H := (hS5 x hv tk n L q).new (.cells (rc r) 26)
def hS7 (x : Bx) (hv : IV) (tk : Nat → Bool) (n : Nat) (L : List (Nat × Nat)) (q r : Nat × Nat) (l : List Nat) : H := (hS6 x hv tk n L q r).new (.cells (nints l) 3)

def oc17 (tk tk' : Nat → Bool) (L : List (Nat × Nat)) (q r : Nat × Nat) (lv v v2 : IV) (h4 h4b h5 h6 h8 hl h9 h10 : H) (m k a d : Nat) (is lt : Bool) : Nat → Nat → Option It := fun f t => match f, t with
  | 17, 21 => some (.o (.agg (tkL tk)))
  | 17, 22 => some (.c lv h4)
  | 17, 27 => some (.c (.tup [.agg (rc q), .bool is]) h4)
  | 17, 33 => some (.c v h6)
  | 17, 37 => some (.c (.tup [.agg (rc r), .bool true]) h5)
  | 17, 44 => some (.c v h8)
  | 17, 46 => some (.g (.int .i64 (m : Nat)) h8)
  | 17, 48 => some (.w (.bool lt))
  | 17, 49 => some (.o (.ptr 7 k))
  | 17, 50 => some (.o (.int .i64 ((a + k : Nat) : Int)))
  | 17, 52 => some (.o (.ptr 2 (a + k)))
  | 17, 1052 => some (.s (tkL tk'))
  | 17, 53 => some (.w (.int .i64 ((k + 1 : Nat) : Int)))
  | 17, 56 => some (.o (.agg (tkL tk)))
  | 17, 60 => some (.g (.int .i64 (m : Nat)) hl)
  | 17, 61 => some (.w (.int .i64 (d : Nat)))
  | 17, 62 => some (.c v2 h9)
  | 17, 63 => some (.g lv h10)
  | _, _ => none

section
variable (x : Bx) (hv : IV) (tk tk' : Nat → Bool) (c : Int) (n m k a d : Nat) (L : List (Nat × Nat)) (q r : Nat × Nat) (l : List Nat) (lv v v2 : IV) (g : Nat → IV) (h6 h9 h10 : H)
theorem pre17_fit : psR Try.prog tab (oc17 tk tk' L q r lv v v2 (hS4 x hv tk n L) (hS4 x hv tk n L) (hS5 x hv tk n L q) h6 h6 h6 h9 h10 m k a d true true) 50 17 none 64 (l17.take 12) (canon 64 (fun j => [IV.agg [hv], .agg (tkL tk), .int .i64 c, .int .i64 (n : Nat)].getD j undefI) []) (boxH [x]) [8] =
  some (.ret, [v], h6, [], [ldC true 64 (tkL tk) 0 = some (.agg (tkL tk)), ClEq Try.prog (.func (.func 23) [] []) [.agg [hv], .int .i64 c, .agg (tkL tk)] (hS x hv tk n) lv (hS4 x hv tk n L),
    ClEq Try.prog (.func (.func 25) [] []) [lv, .func (.func 24) [] [.ptr 3 0], .func (.func 26) [] []] (hS4 x hv tk n L) (.tup [.agg (rc q), .bool true]) (hS4 x hv tk n L),
    ClEq Try.prog (.func (.func 27) [] []) [.agg (rc q), .int .i64 (n : Nat)] (hS5 x hv tk n L q) v h6]) := by kernel_rfl
theorem pre17_long : psR Try.prog tab (oc17 tk tk' L q r lv v v2 (hS4 x hv tk n L) (hS4 x hv tk n L) (hS5 x hv tk n L q) h6 (hS7 x hv tk n L q r l) h6 h9 h10 m k a d false true) 50 17 none 64 (l17.take 12) (canon 64 (fun j => [IV.agg [hv], .agg (tkL tk), .int .i64 c, .int .i64 (n : Nat)].getD j undefI) []) (boxH [x]) [2, 4, 5, 7, 16, 45, 46, 47] =
  some (.normal, [.int .i64 c, .ptr 1 0, .ptr 2 0, .ptr 3 0, v, v, .int .i64 (m : Nat), .int .i64 (0 : Nat)], hS7 x hv tk n L q r l, [], [ldC true 64 (tkL tk) 0 = some (.agg (tkL tk)), ClEq Try.prog (.func (.func 23) [] []) [.agg [hv], .int .i64 c, .agg (tkL tk)] (hS x hv tk n) lv (hS4 x hv tk n L),
    ClEq Try.prog (.func (.func 25) [] []) [lv, .func (.func 24) [] [.ptr 3 0], .func (.func 26) [] []] (hS4 x hv tk n L) (.tup [.agg (rc q), .bool false]) (hS4 x hv tk n L),
    ClEq Try.prog (.func (.func 25) [] []) [lv, .func (.func 28) [] [], .func (.func 29) [] []] (hS5 x hv tk n L q) (.tup [.agg (rc r), .bool true]) (hS5 x hv tk n L q),
    ClEq Try.prog (.func (.func 27) [] []) [.agg (rc r), .int .i64 (n : Nat)] (hS6 x hv tk n L q r) v (hS7 x hv tk n L q r l),
    builtinI tab .len [27] [v] (hS7 x hv tk n L q r l) = some (.int .i64 (m : Nat), hS7 x hv tk n L q r l)]) := by kernel_rfl
def lv17 (c : Int) (v : IV) (m k : Nat) : List IV := [.int .i64 c, .ptr 1 0, .ptr 2 0, .ptr 3 0, v, v, .int .i64 (m : Nat), .int .i64 (k : Nat)]
theorem r17_end : pxR Try.prog tab (oc17 tk tk' L q r lv v v2 (hS4 x hv tk n L) (hS4 x hv tk n L) (hS5 x hv tk n L q) h6 h6 h6 h9 h10 m k a d false false) 50 17 none 64 (loopAt l17 12) (canon 64 (ov [2, 4, 5, 7, 16, 45, 46, 47] (lv17 c v m k) g) []) (hS7 x hv tk n L q r l) [2, 4, 5, 7, 16] =
  some (.exit 0, [.int .i64 c, .ptr 1 0, .ptr 2 0, .ptr 3 0, v], hS7 x hv tk n L q r l, [], [IV.bool (decide ((k : Int) < m)) = .bool false]) := by kernel_rfl
theorem r17_go : pxR Try.prog tab (oc17 tk tk' L q r lv v v2 (hS4 x hv tk n L) (hS4 x hv tk n L) (hS5 x hv tk n L q) h6 h6 h6 h9 h10 m k a d false true) 50 17 none 64 (loopAt l17 12) (canon 64 (ov [2, 4, 5, 7, 16, 45, 46, 47] (lv17 c v m k) g) []) (hS7 x hv tk n L q r l) [2, 4, 5, 7, 16, 45, 46, 47] =
  some (.normal, lv17 c v m (k + 1), hS7 x hv tk' n L q r l, [], [IV.bool (decide ((k : Int) < m)) = .bool true, indexAddrI tab 27 v (.int .i64 (k : Nat)) = some (.ptr 7 k), ldC false 1 (nints l) k = some (.int .i64 ((a + k : Nat) : Int)),
    indexAddrI tab 25 (.ptr 2 0) (.int .i64 ((a + k : Nat) : Int)) = some (.ptr 2 (a + k)), stC 1 (tkL tk) (a + k) (.bool true) = some (tkL tk'), IV.int .i64 (IntKind.wrap .i64 ((k : Int) + 1)) = .int .i64 ((k + 1 : Nat) : Int)]) := by kernel_rfl
theorem post17 : psR Try.prog tab (oc17 tk tk' L q r lv v v2 (hS4 x hv tk n L) (hS4 x hv tk n L) (hS5 x hv tk n L q) h6 h6 (hS7 x hv tk n L q r l) h9 h10 m k a d false true) 50 17 none 64 (l17.drop 13) (canon 64 (ov [2, 4, 5, 7, 16] [.int .i64 c, .ptr 1 0, .ptr 2 0, .ptr 3 0, v] g) []) (hS7 x hv tk n L q r l) [8] =
  some (.ret, [lv], h10, [], [ldC true 64 (tkL tk) 0 = some (.agg (tkL tk)), builtinI tab .len [27] [v] (hS7 x hv tk n L q r l) = some (.int .i64 (m : Nat), hS7 x hv tk n L q r l),
    IV.int .i64 (IntKind.wrap .i64 ((n : Int) - m)) = .int .i64 (d : Nat), ClEq Try.prog (.func (.func 17) [] []) [.agg [hv], .agg (tkL tk), .int .i64 c, .int .i64 (d : Nat)] (hS7 x hv tk n L q r l) v2 h9,
    builtinI tab .append [27, 27] [v, v2] h9 = some (lv, h10)]) := by kernel_rfl
end
end Go.Proofs.Ytjhgomacanffkaa
namespace Go.Proofs.Ytjhgomacanffkaa
open Go Sx Go.RowKit

theorem tk_ld (tk : Nat → Bool) : ldC true 64 (tkL tk) 0 = some (.agg (tkL tk)) := by kernel_rfl
theorem tk_set {tk tk' : Nat → Bool} {j : Nat} (hj : j < 64) (h : ∀ i, tk' i = (tk i || decide (i = j))) : stC 1 (tkL tk) j (.bool true) = some (tkL tk') := by
  unfold stC
  rw [show Nat.ble (j + 1) (tkL tk).length = true by rw [tkL_length]; exact Nat.ble_eq_true_of_le (by omega)]
  simp only [IV.cells, List.length_cons, List.length_nil, List.all_cons, List.all_nil, IV.one, Bool.and_true, Bool.and_self, splice]
  have : (tkL tk).set j (.bool true) = tkL tk' := by
    apply List.ext_getElem?
    intro i
    rw [List.getElem?_set]
    by_cases hi : j = i
    · subst hi
      rw [if_pos rfl, if_pos (by rw [tkL_length]; omega), tkL_get hj, h]
      simp
    · rw [if_neg hi]
      by_cases h2 : i < 64
      · rw [tkL_get h2, tkL_get h2, h]
        have : ¬ i = j := fun e => hi e.symm
        simp [this]
      · rw [List.getElem?_eq_none (by rw [tkL_length]; omega), List.getElem?_eq_none (by rw [tkL_length]; omega)]
  rw [this]; rfl
theorem mark_nil (tk : Nat → Bool) : mark tk [] = tk := by funext i; simp [mark]
theorem mark_snoc (tk : Nat → Bool) (l : List Nat) (a : Nat) (i : Nat) : mark tk (l ++ [a]) i = (mark tk l i || decide (i = a)) := by
  simp [mark, Bool.or_assoc]
theorem runF_length : ∀ L : List (Nat × Nat), (∀ r ∈ L, 1 ≤ r.2) → L.length ≤ (runF L).length
  | [], _ => Nat.zero_le _
  | r :: L, h => by
    have h1 := h r (List.mem_cons_self ..)
    have h2 := runF_length L fun r hr => h r (List.mem_cons_of_mem _ hr)
    simp only [runF, List.flatMap_cons, List.length_append, List.length_cons, takeP_length] at h2 ⊢
    omega
theorem runs_length {rs : List (Int × Int)} (h8 : rs.length ≤ 8) (c : Int) (tk : Nat → Bool) : (runs rs c tk).length ≤ 64 := by
  have h1 := runF_length _ (runs_pos rs c tk)
  rw [runs_flat] at h1
  have h2 : (free rs c tk).length ≤ (allS rs 0).length := by
    unfold free
    rw [List.length_map]
    exact List.length_filter_le _ _
  have := allS_length rs 0
  omega

theorem keep0 {x : Bx} {h : H} (h0 : h.get 0 = some (x, false)) : ∀ i y, (boxH [x]).get i = some y → h.get i = some y := by
  intro i y hi
  rw [boxH_get] at hi
  have hi0 : i = 0 := by
    cases i with
    | zero => rfl
    | succ i => simp at hi
  subst hi0
  rw [h0]
  simpa using hi

theorem bodyQ_list {x : Bx} {n : Nat} {cs : List IV} {fr : Fr} {h : H} {s r : Nat} (hm : fr.marks = []) (hr : fr.tm.tmp r = slV s n) (hs : n = 0 ∨ (h.get s = some (.cells cs 3, true) ∧ [x].length ≤ s)) (h0 : h.get 0 = some (x, false)) :
    BodyQ tab [.tmp r] (fun v' h' => ∃ s, v' = slV s n ∧ (n = 0 ∨ (h'.get s = some (.cells cs 3, true) ∧ [x].length ≤ s)) ∧ ∀ i y, (boxH [x]).get i = some y → h'.get i = some y) .ret fr h :=
  ⟨.inr rfl, h, [slV s n], by rw [hm]; rfl, by simp only [resI, hr, Option.map_some], s, rfl, hs, keep0 h0⟩

theorem search_list {x : Bx} {off nn : Nat} {cp : Cap} {rs : List (Int × Int)} (hx : HallX x off nn cp rs) {c : Int} {n : Nat} {tk : Nat → Bool} {cs : List Nat}
    (hs : Sp Try.prog 17 [.agg [.slice 0 off nn cp], .agg (tkL tk), .int .i64 c, .int .i64 (n : Nat)] (boxH [x]) fun v' h' => ∃ s, v' = slV s n ∧ (n = 0 ∨ (h'.get s = some (.cells (nints cs) 3, true) ∧ [x].length ≤ s)) ∧
      ∀ i y, (boxH [x]).get i = some y → h'.get i = some y) {h : H} {b : Nat} {wr : Bool} (hb : h.get b = some (x, wr)) :
    ClEq Try.prog (.func (.func 17) [] []) [.agg [.slice b off nn cp], .agg (tkL tk), .int .i64 c, .int .i64 (n : Nat)] h (slV h.next n) (newL h n (nints cs) 3) := by
  refine Cl.of_sp (first := []) (cap := []) enters17 ?_
  have hul : underLB 1 (tkL tk) = true := by
    unfold tkL
    generalize List.range 64 = l
    induction l with
    | nil => rfl
    | cons a l ih => simp only [List.map_cons, underLB, IV.underB, Bool.true_and, ih]
  have hrn : ∀ f, renL f (tkL tk) = tkL tk := fun f => by
    unfold tkL
    generalize List.range 64 = l
    induction l with
    | nil => rfl
    | cons a l ih => simp only [List.map_cons, renL, IV.ren, ih]
  have := Sp.list (bs := [x]) (by simp [hx.fl]) (by simp [underLB, IV.underB, hul]) (nints_flat _) hs (H0 := h) (fun _ => b) (fun i o ho => by
    cases i with
    | zero => simp at ho; subst ho; exact ⟨wr, hb⟩
    | succ i => simp at ho) (fun i j hi hj _ => by simp at hi hj; omega)
  simp only [renL, IV.ren, hrn] at this
  exact this

theorem search_sp {x : Bx} {off nn : Nat} {cp : Cap} {rs : List (Int × Int)} (hx : HallX x off nn cp rs) (c : Int) : ∀ (f n : Nat) (tk : Nat → Bool), 1 ≤ n → n ≤ f → n ≤ (free rs c tk).length →
    Sp Try.prog 17 [.agg [.slice 0 off nn cp], .agg (tkL tk), .int .i64 c, .int .i64 (n : Nat)] (boxH [x]) fun v' h' => ∃ s, v' = slV s n ∧ (n = 0 ∨ (h'.get s = some (.cells (nints (searchP rs c f tk n)) 3, true) ∧ [x].length ≤ s)) ∧
      ∀ i y, (boxH [x]).get i = some y → h'.get i = some y
  | 0, n, tk, h1, hf, _ => by omega
  | f + 1, n, tk, h1, hf, hn => by
    have h8 : rs.length ≤ 8 := by have := hx.len; omega
    have hLl := runs_length h8 c tk
    have hfl := runs_flat rs c tk
    have hLp : 0 < (runs rs c tk).length := by
      rcases Nat.eq_zero_or_pos (runs rs c tk).length with e | e
      · rw [List.eq_nil_of_length_eq_zero e] at hfl
        rw [← hfl] at hn
        simp [runF] at hn
        omega
      · exact e
    have hrn : ∀ r ∈ runs rs c tk, r.1 + r.2 ≤ 64 := fun r hr => run_lt h8 hr
    have hpos := runs_pos rs c tk
    have hso := search_ok rs c (f + 1) n tk hf hn
    have hrec : searchP rs c (f + 1) tk n = (match fitP (runs rs c tk) n with
      | some r => takeP r.1 n
      | none => match longP (runs rs c tk) with
        | none => []
        | some r => takeP r.1 r.2 ++ searchP rs c f (mark tk (takeP r.1 r.2)) (n - r.2)) := rfl
    generalize hL : runs rs c tk = L at *
    let hv : IV := .slice 0 off nn cp
    -- the calls
    have g0 : (hS x hv tk n).get 0 = some (x, false) := by kernel_rfl
    have q1 : ClEq Try.prog (.func (.func 23) [] []) [.agg [hv], .int .i64 c, .agg (tkL tk)] (hS x hv tk n) (slV 4 L.length) (hS4 x hv tk n L) := by
      have := runs_cl hx c tk g0
      rw [hL, newL_pos hLp] at this
      exact this
    have g4 : (hS4 x hv tk n L).get 4 = some (.cells (rcells L) 26, true) := by kernel_rfl
    have g3 : (hS4 x hv tk n L).get 3 = some (b24 n, true) := by kernel_rfl
    have d4 : ∀ i y, (hS4 x hv tk n L).get i = some y → i < (hS4 x hv tk n L).next := dom_new (dom_new (dom_new (dom_new dom_boxH)))
    have q2 : ClEq Try.prog (.func (.func 25) [] []) [slV 4 L.length, .func (.func 24) [] [.ptr 3 0], .func (.func 26) [] []] (hS4 x hv tk n L) (.tup [.agg (rc (orZ (fitP L n))), .bool (fitP L n).isSome]) (hS4 x hv tk n L) := by
      refine Cl.of_sp (first := []) (cap := []) enters25 ?_
      exact best_sp (fun r => decide (n ≤ r.2)) (fun x y => decide (x.2 < y.2)) d4 (by omega) (.inr g4) (fun h' r hk => cl24 r n (hk _ _ g3)) (fun h' r q _ => cl26 r q h')
    refine Sp.of_ev tab_ok Try.func17 (c := bodyC Try.prog 17) (by kernel_rfl) (Nat.le_of_ble_eq_true rfl) ?_
    show Ev Try.prog none 64 (bodyC Try.prog 17) (BodyQ tab [.tmp 8] _) _ _
    refine Ev.of_flat l17_eq ?_
    cases hfit : fitP L n with
    | some r =>
      obtain ⟨hm, hle⟩ := fit_some hfit
      have hr64 := hrn r hm
      rw [hfit] at q2
      have q3 := take_cl r n (by omega) (hS5 x hv tk n L r)
      rw [Nat.min_eq_left hle, newL_pos h1] at q3
      refine EvS.px tab_ok mixed (FrIs.start 64 _) (by simp) (pre17_fit x hv tk tk c n 0 0 0 0 L r (0, 0) (slV 4 L.length) (slV 6 n) .nilslice ((hS5 x hv tk n L r).new (.cells (nints (takeP r.1 n)) 3)) (boxH []) (boxH [])) ⟨tk_ld tk, q1, q2, q3, trivial⟩ fun fr g hf' => ?_
      have hsr : searchP rs c (f + 1) tk n = takeP r.1 n := by rw [hrec, hfit]
      rw [hsr]
      refine bodyQ_list (s := 6) (r := 8) hf'.1 (hf'.2 8 (by decide)) (.inr ⟨?_, by simp⟩) ?_
      · rw [H.get_new]; exact if_pos rfl
      · kernel_rfl
    | none =>
      have hlt := fit_none hfit
      rw [hfit] at q2
      have g5 : (hS5 x hv tk n L (0, 0)).get 4 = some (.cells (rcells L) 26, true) := by kernel_rfl
      have d5 : ∀ i y, (hS5 x hv tk n L (0, 0)).get i = some y → i < (hS5 x hv tk n L (0, 0)).next := dom_new d4
      have q3 : ClEq Try.prog (.func (.func 25) [] []) [slV 4 L.length, .func (.func 28) [] [], .func (.func 29) [] []] (hS5 x hv tk n L (0, 0)) (.tup [.agg (rc (orZ (longP L))), .bool (longP L).isSome]) (hS5 x hv tk n L (0, 0)) := by
        refine Cl.of_sp (first := []) (cap := []) enters25 ?_
        exact best_sp (fun _ => true) (fun x y => decide (y.2 < x.2)) d5 (by omega) (.inr g5) (fun h' r _ => cl28 r h') (fun h' r q _ => cl29 r q h')
      cases hlong : longP L with
      | none => rw [long_none hlong] at hLp; exact absurd hLp (by simp)
      | some r =>
        have hm := long_some hlong
        have hr64 := hrn r hm
        have hrp := hpos r hm
        have hrlt := hlt r hm
        rw [hlong] at q3
        have hf64 : (free rs c tk).length ≤ 64 := by
          have h1 : (free rs c tk).length ≤ (allS rs 0).length := by
            unfold free
            rw [List.length_map]
            exact List.length_filter_le _ _
          have := allS_length rs 0
          omega
        have hsr : searchP rs c (f + 1) tk n = takeP r.1 r.2 ++ searchP rs c f (mark tk (takeP r.1 r.2)) (n - r.2) := by
          rw [hrec, hfit]
          simp only [hlong]
        have q4 := take_cl r n (by omega) (hS6 x hv tk n L (0, 0) r)
        rw [Nat.min_eq_right (by omega), newL_pos (by omega)] at q4
        have q5 := len_slV t27d 7 r.2 (hS7 x hv tk n L (0, 0) r (takeP r.1 r.2))
        refine EvS.px tab_ok mixed (FrIs.start 64 _) (by simp) (pre17_long x hv tk tk c n r.2 0 0 0 L (0, 0) r (takeP r.1 r.2) (slV 4 L.length) (slV 7 r.2) .nilslice (boxH []) (boxH []) (boxH [])) ⟨tk_ld tk, q1, q2, q3, q4, q5, trivial⟩ fun fr g hf' => ?_
        refine EvS.loop (fun t fr h => ∃ k, k ≤ r.2 ∧ t = r.2 - k ∧ h = hS7 x hv (mark tk (takeP r.1 k)) n L (0, 0) r (takeP r.1 r.2) ∧ ∃ g, FrIs 64 fr (ov [2, 4, 5, 7, 16, 45, 46, 47] (lv17 c (slV 7 r.2) r.2 k) g) []) r.2
          ⟨0, by omega, by omega, by rw [show takeP r.1 0 = [] from rfl, mark_nil], g, hf'⟩ ?_
        rintro t fr h ⟨k, hk, rfl, rfl, g, hf'⟩
        by_cases hlt2 : k < r.2
        · have e1 : indexAddrI tab 27 (slV 7 r.2) (.int .i64 (k : Nat)) = some (.ptr 7 k) := by
            rw [slV_pos (by omega), ix_sl t27d t3s hlt2]; simp
          have e2 : ldC false 1 (nints (takeP r.1 r.2)) k = some (.int .i64 ((r.1 + k : Nat) : Int)) := by
            show (nints (takeP r.1 r.2))[k]? = _
            simp [nints, takeP, hlt2]
          have e3 : indexAddrI tab 25 (.ptr 2 0) (.int .i64 ((r.1 + k : Nat) : Int)) = some (.ptr 2 (r.1 + k)) := by
            rw [ix_arr t25d t4s (by omega)]; simp
          have e4 : stC 1 (tkL (mark tk (takeP r.1 k))) (r.1 + k) (.bool true) = some (tkL (mark tk (takeP r.1 (k + 1)))) := tk_set (by omega) fun i => by rw [takeP_succ, mark_snoc]
          refine Ev.px tab_ok mixed hf' (r17_go x hv (mark tk (takeP r.1 k)) (mark tk (takeP r.1 (k + 1))) c n r.2 k r.1 0 L (0, 0) r (takeP r.1 r.2) .nilslice (slV 7 r.2) .nilslice g (boxH []) (boxH []) (boxH []))
            ⟨by rw [decide_eq_true (by omega)], e1, e2, e3, e4, w_i (by omega), trivial⟩ fun fr2 g2 hf2 => ?_
          exact ⟨r.2 - (k + 1), by omega, k + 1, by omega, rfl, rfl, g2, hf2⟩
        obtain rfl : k = r.2 := by omega
        refine Ev.px tab_ok mixed hf' (r17_end x hv (mark tk (takeP r.1 r.2)) tk c n r.2 r.2 0 0 L (0, 0) r (takeP r.1 r.2) .nilslice (slV 7 r.2) .nilslice g (boxH []) (boxH []) (boxH []))
          ⟨by rw [decide_eq_false (by omega)], trivial⟩ fun fr2 g2 hf2 => ?_
        refine RoundEnds.out ?_
        have hl := free_mark_run (by rw [hL]; exact hm : r ∈ runs rs c tk)
        have hn1 : 1 ≤ n - r.2 := by omega
        have hn2 : n - r.2 ≤ f := by omega
        have hn3 : n - r.2 ≤ (free rs c (mark tk (takeP r.1 r.2))).length := by omega
        have ih := search_sp hx c f (n - r.2) (mark tk (takeP r.1 r.2)) hn1 hn2 hn3
        have hso2 := (search_ok rs c f (n - r.2) (mark tk (takeP r.1 r.2)) hn2 hn3).1
        generalize searchP rs c f (mark tk (takeP r.1 r.2)) (n - r.2) = l2 at *
        have g70 : (hS7 x hv (mark tk (takeP r.1 r.2)) n L (0, 0) r (takeP r.1 r.2)).get 0 = some (x, false) := by kernel_rfl
        have p1 := search_list hx ih g70
        rw [newL_pos hn1] at p1
        have p2 : ((hS7 x hv (mark tk (takeP r.1 r.2)) n L (0, 0) r (takeP r.1 r.2)).new (.cells (nints l2) 3)).get 7 = some (.cells (nints (takeP r.1 r.2)) 3, true) := by kernel_rfl
        have p3 : ((hS7 x hv (mark tk (takeP r.1 r.2)) n L (0, 0) r (takeP r.1 r.2)).new (.cells (nints l2) 3)).get 8 = some (.cells (nints l2) 3, true) := by kernel_rfl
        have hone : (nints l2).all IV.one = true := by simp [nints, IV.one]
        have p4 := app_soft (t := 27) (c := .soft 0) t27d t3i (by decide) (len := r.2) (n := n - r.2) p2 (by rw [nints_length, takeP_length, Nat.mul_one]) (by decide) (by omega) p3 (by rw [nints_length, hso2, Nat.mul_one]) hone (by omega)
        have hnr : r.2 + (n - r.2) = n := by omega
        rw [hnr] at p4
        have e8 : slV (hS7 x hv (mark tk (takeP r.1 r.2)) n L (0, 0) r (takeP r.1 r.2)).next (n - r.2) = .slice 8 0 (n - r.2) (.soft 0) := slV_pos hn1
        have e7 : slV 7 r.2 = .slice 7 0 r.2 (.soft 0) := slV_pos hrp
        rw [e8] at p1
        rw [e7] at hf2 q5
        have q5' := len_slV t27d 7 r.2 (hS7 x hv (mark tk (takeP r.1 r.2)) n L (0, 0) r (takeP r.1 r.2))
        rw [e7] at q5'
        refine EvS.pxEnd tab_ok mixed hf2 (List.cons_ne_nil _ _) (post17 x hv (mark tk (takeP r.1 r.2)) tk c n r.2 0 0 (n - r.2) L (0, 0) r (takeP r.1 r.2) (.slice 9 0 n (.soft 0)) (.slice 7 0 r.2 (.soft 0)) (.slice 8 0 (n - r.2) (.soft 0)) g2 (boxH []) _ _)
          ⟨tk_ld _, q5', ?_, p1, p4, trivial⟩ fun fr3 g3 hf3 => ?_
        · rw [wrap64 (by omega) (by omega), show (n : Int) - r.2 = ((n - r.2 : Nat) : Int) by omega]
        rw [hsr]
        refine bodyQ_list (s := 9) (r := 8) hf3.1 ?_ (.inr ⟨?_, by simp⟩) ?_
        · rw [slV_pos h1]; exact hf3.2 8 (by decide)
        · have : nints (takeP r.1 r.2 ++ l2) = nints (takeP r.1 r.2) ++ nints l2 := by simp [nints]
          rw [this]
          rw [H.get_new]; exact if_pos rfl
        · kernel_rfl

theorem search_cl {x : Bx} {off nn : Nat} {cp : Cap} {rs : List (Int × Int)} (hx : HallX x off nn cp rs) (c : Int) {n : Nat} {tk : Nat → Bool} (h1 : 1 ≤ n) (hn : n ≤ (free rs c tk).length) {h : H} {b : Nat} {wr : Bool} (hb : h.get b = some (x, wr)) :
    ClEq Try.prog (.func (.func 17) [] []) [.agg [.slice b off nn cp], .agg (tkL tk), .int .i64 c, .int .i64 (n : Nat)] h (slV h.next n) (newL h n (nints (searchP rs c n tk n)) 3) :=
  search_list hx (search_sp hx c n n tk h1 (Nat.le_refl _) hn) hb
end Go.Proofs.Ytjhgomacanffkaa
