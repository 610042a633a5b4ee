/- The law GroupGrows returns true. -/
import Derived.Test.YtjhgomacanffkaaGLaw
import Derived.Test.YtjhgomacanffkaaGWorks
namespace Go.Proofs.Ytjhgomacanffkaa
open Go Sx Go.RowKit

noncomputable def l5 : List Code := flat (bodyC Try.prog 5)
theorem l5_eq : flat (bodyC Try.prog 5) = l5.take 6 ++ (.block 0 (.loop (loopAt l5 6)) :: l5.drop 7) := by kernel_rfl
noncomputable def r5 : List Code := flat (loopAt l5 6)
theorem r5_eq : flat (loopAt l5 6) = r5.take 2 ++ (.block 1 (blkAt r5 2) :: r5.drop 3) := by kernel_rfl
noncomputable def m5 : List Code := flat (blkAt r5 2)
theorem m5_eq : flat (blkAt r5 2) = m5.take 3 ++ (.block 2 (.loop (loopAt m5 3)) :: m5.drop 4) := by kernel_rfl
theorem m5_eq2 : m5.drop 4 = (m5.drop 4).take 4 ++ (.block 4 (.loop (loopAt m5 8)) :: []) := by kernel_rfl

/-- The heap ahead of a law of two lists. -/
def hL (o0 o1 : Option (Bx × Bool)) : H := ⟨.node (.node .leaf .leaf o1) .leaf o0, 2⟩
def hL1 (o0 o1 : Option (Bx × Bool)) (rs : List (Int × Int)) : H := (hL o0 o1).new (.cells (rowC rs) 39)
def hL2 (o0 o1 : Option (Bx × Bool)) (rs : List (Int × Int)) (hv : IV) (tk : Nat → Bool) : H := ((hL1 o0 o1 rs).new (.cells [hv] 24)).new (.cells (tkL tk) 25)

def oc5 (h0 h1 h h2 h3 : H) (hv av bv lv sv : IV) (tk tk' : Nat → Bool) (x1 : Bx × Bool) (p i k n ln kn z c : Nat) (q w val : Nat) (L : List Nat) (lt lt20 ok ge : Bool) : Nat → Nat → Option It := fun f t => match f, t with
  | 5, 16 => some (.c (.bool true) h0)
  | 5, 19 => some (.c (.agg [hv]) h1)
  | 5, 1005 => some (.s [hv])
  | 5, 22 => some (.g (.int .i64 (n : Nat)) h)
  | 5, 23 => some (.w (.bool lt))
  | 5, 26 => some (.w (.bool lt20))
  | 5, 29 => some (.w (.int .i64 ((i + 1 : Nat) : Int)))
  | 5, 32 => some (.o (.ptr 1 p))
  | 5, 33 => some (.l (.int .u8 (z : Nat)) x1)
  | 5, 34 => some (.w (.int .i64 (z : Nat)))
  | 5, 35 => some (.w (.int .i64 ((z % 8 : Nat) : Int)))
  | 5, 36 => some (.w (.int .i64 ((1 + z % 8 : Nat) : Int)))
  | 5, 39 => some (.o (.ptr 1 p))
  | 5, 40 => some (.l (.int .u8 (z : Nat)) x1)
  | 5, 41 => some (.w (.int .i64 (z : Nat)))
  | 5, 42 => some (.w (.int .i64 ((z / 8 : Nat) : Int)))
  | 5, 43 => some (.w (.int .i64 ((z / 8 % 3 : Nat) : Int)))
  | 5, 44 => some (.l (.agg [hv]) (.cells [hv] 24, true))
  | 5, 45 => some (.l (.agg (tkL tk)) (.cells (tkL tk) 25, true))
  | 5, 47 => some (.c lv h2)
  | 5, 48 => some (.g (.int .i64 (ln : Nat)) h2)
  | 5, 50 => some (.w (.bool lt))
  | 5, 51 => some (.o (.ptr q k))
  | 5, 52 => some (.l (.int .i64 (val : Nat)) (.cells (nints L) 3, true))
  | 5, 55 => some (.w (.int .i64 ((w + val : Nat) : Int)))
  | 5, 56 => some (.w (.int .i64 ((k + 1 : Nat) : Int)))
  | 5, 58 => some (.l (.agg [hv]) (.cells [hv] 24, true))
  | 5, 59 => some (.l (.agg (tkL tk)) (.cells (tkL tk) 25, true))
  | 5, 62 => some (.c (.tup [sv, .bool ok]) h3)
  | 5, 68 => some (.w (.bool ge))
  | 5, 69 => some (.w (.bool false))
  | 5, 72 => some (.g (.int .i64 (kn : Nat)) h)
  | 5, 73 => some (.w (.bool lt))
  | 5, 78 => some (.o (.ptr q k))
  | 5, 79 => some (.l (.int .i64 (val : Nat)) (.cells (nints L) 3, true))
  | 5, 80 => some (.w (.bool false))
  | 5, 84 => some (.o (.ptr q k))
  | 5, 85 => some (.l (.int .i64 (val : Nat)) (.cells (nints L) 3, true))
  | 5, 86 => some (.w (.bool false))
  | 5, 91 => some (.o (.ptr q k))
  | 5, 92 => some (.l (.int .i64 (val : Nat)) (.cells (nints L) 3, true))
  | 5, 93 => some (.o (.ptr 4 val))
  | 5, 94 => some (.l (.bool false) (.cells (tkL tk) 25, true))
  | 5, 98 => some (.o (.ptr q k))
  | 5, 99 => some (.l (.int .i64 (val : Nat)) (.cells (nints L) 3, true))
  | 5, 100 => some (.o (.ptr 4 val))
  | 5, 1100 => some (.t (tkL tk) 25 (tkL tk'))
  | 5, 75 => some (.w (.int .i64 ((k + 1 : Nat) : Int)))
  | _, _ => none

section
variable (o0 o1 : Option (Bx × Bool)) (h h2 h3 : H) (hv av bv lv sv : IV) (tk tk' : Nat → Bool) (x1 : Bx × Bool) (p i k n ln kn z c : Nat) (q w val : Nat) (L : List Nat) (rs : List (Int × Int)) (lt lt20 ok ge : Bool) (g : Nat → IV)
theorem pre5 : psR Try.prog tab (oc5 (hL o0 o1) (hL1 o0 o1 rs) h h2 h3 hv av bv lv sv tk tk' x1 p i k n ln kn z c q w val L true true true true) 50 5 none 101 (l5.take 6) (canon 101 (fun j => [av, bv].getD j undefI) []) (hL o0 o1) [1, 5, 6, 7] =
  some (.normal, [bv, .ptr 3 0, .ptr 4 0, .int .i64 (0 : Nat)], hL2 o0 o1 rs hv (fun _ => false), [], [ClEq Try.prog (.func (.func 10) [] []) [] (hL o0 o1) (.bool true) (hL o0 o1),
    ClEq Try.prog (.func (.func 11) [] []) [av] (hL o0 o1) (.agg [hv]) (hL1 o0 o1 rs), stC 1 [.nilslice] 0 (.agg [hv]) = some [hv]]) := by kernel_rfl
def lvG (bv : IV) (i : Nat) : List IV := [bv, .ptr 3 0, .ptr 4 0, .int .i64 (i : Nat)]
theorem r5_end (he : (lt && lt20) = false) : psR Try.prog tab (oc5 h h h h2 h3 hv av bv lv sv tk tk' x1 p i k n ln kn z c q w val L lt lt20 true true) 50 5 none 101 (r5.take 2) (canon 101 (ov [1, 5, 6, 7] (lvG bv i) g) []) h [] =
  some (.exit 0, [], h, [], [builtinI tab .len [41] [bv] h = some (.int .i64 (n : Nat), h), IV.bool (decide ((i : Int) < n)) = .bool lt] ++ (bif lt then [IV.bool (decide ((i : Int) < 20)) = .bool lt20] else [])) := by
  cases lt <;> cases lt20 <;> first | (cases he; done) | kernel_rfl
theorem r5_go : psR Try.prog tab (oc5 h h h h2 h3 hv av bv lv sv tk tk' x1 p i k n ln kn z c q w val L true true true true) 50 5 none 101 (r5.take 2) (canon 101 (ov [1, 5, 6, 7] (lvG bv i) g) []) h [1, 5, 6, 7] =
  some (.normal, lvG bv i, h, [], [builtinI tab .len [41] [bv] h = some (.int .i64 (n : Nat), h), IV.bool (decide ((i : Int) < n)) = .bool true, IV.bool (decide ((i : Int) < 20)) = .bool true]) := by kernel_rfl
theorem r5_inc : psR Try.prog tab (oc5 h h h h2 h3 hv av bv lv sv tk tk' x1 p i k n ln kn z c q w val L true true true true) 50 5 none 101 (r5.drop 3) (canon 101 (ov [1, 5, 6, 7] (lvG bv i) g) []) h [1, 5, 6, 7] =
  some (.normal, lvG bv (i + 1), h, [], [IV.int .i64 (IntKind.wrap .i64 ((i : Int) + 1)) = .int .i64 ((i + 1 : Nat) : Int)]) := by kernel_rfl
/-- What a number asks for. -/
abbrev nOf (z : Nat) : Nat := 1 + z % 8
abbrev cOf (z : Nat) : Nat := z / 8 % 3
def lvM (bv : IV) (i z w : Nat) (lv : IV) (ln k : Nat) : List IV := [bv, .ptr 3 0, .ptr 4 0, .int .i64 (i : Nat), .int .i64 (nOf z : Nat), .int .i64 (cOf z : Nat), .int .i64 (w : Nat), lv, .int .i64 (ln : Nat), .int .i64 (k : Nat)]
def oT (h : H) (hv : IV) (tk : Nat → Bool) : List Prop := [h.get 3 = some (.cells [hv] 24, true), ldX (.cells [hv] 24, true) true 1 0 = some (.agg [hv]), h.get 4 = some (.cells (tkL tk) 25, true), ldX (.cells (tkL tk) 25, true) true 64 0 = some (.agg (tkL tk))]
theorem m5_pre : psR Try.prog tab (oc5 h h h h2 h3 hv av bv lv sv tk tk' x1 p i k n ln kn z c q w val L true true true true) 50 5 none 101 (m5.take 3) (canon 101 (ov [1, 5, 6, 7] (lvG bv i) g) []) h [1, 5, 6, 7, 8, 9, 10, 47, 48, 49] =
  some (.normal, lvM bv i z 0 lv ln 0, h2, [], [indexAddrI tab 41 bv (.int .i64 i) = some (.ptr 1 p), h.get 1 = some x1, ldX x1 false 1 p = some (.int .u8 (z : Nat)), IV.int .i64 (IntKind.wrap .i64 (z : Nat)) = .int .i64 (z : Nat),
    IV.int .i64 ((z : Int).tmod 8) = .int .i64 ((z % 8 : Nat) : Int), IV.int .i64 (IntKind.wrap .i64 (1 + ((z % 8 : Nat) : Int))) = .int .i64 (nOf z : Nat),
    indexAddrI tab 41 bv (.int .i64 i) = some (.ptr 1 p), h.get 1 = some x1, ldX x1 false 1 p = some (.int .u8 (z : Nat)), IV.int .i64 (IntKind.wrap .i64 (z : Nat)) = .int .i64 (z : Nat),
    IV.int .i64 (IntKind.wrap .i64 ((z : Int).tdiv 8)) = .int .i64 ((z / 8 : Nat) : Int), IV.int .i64 (((z / 8 : Nat) : Int).tmod 3) = .int .i64 (cOf z : Nat)] ++ oT h hv tk ++
    [ClEq Try.prog (.func (.func 12) [] []) [.agg [hv], .agg (tkL tk), .int .i64 (cOf z : Nat)] h lv h2, builtinI tab .len [27] [lv] h2 = some (.int .i64 (ln : Nat), h2)]) := by kernel_rfl
theorem s5_end : pxR Try.prog tab (oc5 h h h h2 h3 hv av bv lv sv tk tk' x1 p i k n ln kn z c q w val L false true true true) 50 5 none 101 (loopAt m5 3) (canon 101 (ov [1, 5, 6, 7, 8, 9, 10, 47, 48, 49] (lvM bv i z w lv ln k) g) []) h [1, 5, 6, 7, 8, 9, 10] =
  some (.exit 2, (lvM bv i z w lv ln k).take 7, h, [], [IV.bool (decide ((k : Int) < ln)) = .bool false]) := by kernel_rfl
theorem s5_go : pxR Try.prog tab (oc5 h h h h2 h3 hv av bv lv sv tk tk' x1 p i k n ln kn z c q w val L true true true true) 50 5 none 101 (loopAt m5 3) (canon 101 (ov [1, 5, 6, 7, 8, 9, 10, 47, 48, 49] (lvM bv i z w lv ln k) g) []) h [1, 5, 6, 7, 8, 9, 10, 47, 48, 49] =
  some (.normal, lvM bv i z (w + val) lv ln (k + 1), h, [], [IV.bool (decide ((k : Int) < ln)) = .bool true, indexAddrI tab 27 lv (.int .i64 k) = some (.ptr q k), h.get q = some (.cells (nints L) 3, true), ldX (.cells (nints L) 3, true) false 1 k = some (.int .i64 (val : Nat)),
    IV.int .i64 (IntKind.wrap .i64 ((w : Int) + val)) = .int .i64 ((w + val : Nat) : Int), IV.int .i64 (IntKind.wrap .i64 ((k : Int) + 1)) = .int .i64 ((k + 1 : Nat) : Int)]) := by kernel_rfl
def lvN (bv : IV) (i : Nat) (sv : IV) (k : Nat) : List IV := [bv, .ptr 3 0, .ptr 4 0, .int .i64 (i : Nat), sv, .int .i64 (k : Nat)]
theorem m5_mid : psR Try.prog tab (oc5 h h h h2 h3 hv av bv lv sv tk tk' x1 p i k n ln kn z c q w val L true true ok ge) 50 5 none 101 ((m5.drop 4).take 4) (canon 101 (ov [1, 5, 6, 7, 8, 9, 10] ((lvM bv i z w lv ln k).take 7) g) []) h [1, 5, 6, 7, 13, 15] =
  some (.normal, lvN bv i sv 0, h3, [], oT h hv tk ++ [ClEq Try.prog (.func (.func 7) [] []) [.agg [hv], .agg (tkL tk), .int .i64 (cOf z : Nat), .int .i64 (nOf z : Nat)] h (.tup [sv, .bool ok]) h3,
    IV.bool (decide ((w : Int) ≥ (nOf z : Nat))) = .bool ge, IV.bool (!(ok == ge)) = .bool false]) := by kernel_rfl
theorem t5_end : pxR Try.prog tab (oc5 h h h h2 h3 hv av bv lv sv tk tk' x1 p i k n ln kn z c q w val L false true ok ge) 50 5 none 101 (loopAt m5 8) (canon 101 (ov [1, 5, 6, 7, 13, 15] (lvN bv i sv k) g) []) h [1, 5, 6, 7] =
  some (.exit 4, lvG bv i, h, [], [builtinI tab .len [27] [sv] h = some (.int .i64 (kn : Nat), h), IV.bool (decide ((k : Int) < kn)) = .bool false]) := by kernel_rfl
def oS (h : H) (sv : IV) (q k val : Nat) (L : List Nat) : List Prop := [indexAddrI tab 27 sv (.int .i64 k) = some (.ptr q k), h.get q = some (.cells (nints L) 3, true), ldX (.cells (nints L) 3, true) false 1 k = some (.int .i64 (val : Nat))]
theorem t5_go : pxR Try.prog tab (oc5 h h h h2 h3 hv av bv lv sv tk tk' x1 p i k n ln kn z c q w val L true true ok ge) 50 5 none 101 (loopAt m5 8) (canon 101 (ov [1, 5, 6, 7, 13, 15] (lvN bv i sv k) g) []) h [1, 5, 6, 7, 13, 15] =
  some (.normal, lvN bv i sv (k + 1), h.put 4 (.cells (tkL tk') 25), [], [builtinI tab .len [27] [sv] h = some (.int .i64 (kn : Nat), h), IV.bool (decide ((k : Int) < kn)) = .bool true] ++ oS h sv q k val L ++ [IV.bool (decide ((val : Int) < 0)) = .bool false] ++ oS h sv q k val L ++
    [IV.bool (decide ((val : Int) > 63)) = .bool false] ++ oS h sv q k val L ++ [indexAddrI tab 25 (.ptr 4 0) (.int .i64 (val : Nat)) = some (.ptr 4 val), h.get 4 = some (.cells (tkL tk) 25, true), ldX (.cells (tkL tk) 25, true) false 1 val = some (.bool false)] ++
    oS h sv q k val L ++ [indexAddrI tab 25 (.ptr 4 0) (.int .i64 (val : Nat)) = some (.ptr 4 val), h.get 4 = some (.cells (tkL tk) 25, true), stC 1 (tkL tk) val (.bool true) = some (tkL tk'), IV.int .i64 (IntKind.wrap .i64 ((k : Int) + 1)) = .int .i64 ((k + 1 : Nat) : Int)]) := by kernel_rfl
theorem post5 : psR Try.prog tab (fun _ _ => none) 50 5 none 101 (l5.drop 7) (canon 101 (ov [] [] g) []) h [4] = some (.ret, [.bool true], h, [], []) := by kernel_rfl
end
end Go.Proofs.Ytjhgomacanffkaa
namespace Go.Proofs.Ytjhgomacanffkaa
open Go Sx Go.RowKit

theorem hL_get {o0 o1 : Option (Bx × Bool)} {i : Nat} {x : Bx × Bool} (h : (hL o0 o1).get i = some x) : (i = 0 ∧ o0 = some x) ∨ (i = 1 ∧ o1 = some x) := by
  unfold hL H.get Tr.get at h
  rw [beqE, beqE] at h
  by_cases h0 : i = 0
  · subst h0; exact .inl ⟨rfl, h⟩
  · rw [decide_eq_false h0] at h
    simp only [cond_false] at h
    by_cases h1 : i % 2 = 1
    · rw [decide_eq_true h1] at h
      simp only [cond_true, Tr.get] at h
      rw [beqE] at h
      by_cases h2 : i / 2 = 0
      · rw [decide_eq_true h2] at h
        simp only [cond_true] at h
        exact .inr ⟨by omega, h⟩
      · rw [decide_eq_false h2] at h
        simp only [cond_false] at h
        cases hb : Nat.beq (i / 2 % 2) 1 <;> (rw [hb] at h; simp at h)
    · rw [decide_eq_false h1] at h
      simp [Tr.get] at h
theorem hL_dom (o0 o1 : Option (Bx × Bool)) : ∀ i y, (hL o0 o1).get i = some y → i < (hL o0 o1).next := by
  intro i y h
  show i < 2
  rcases hL_get h with ⟨rfl, _⟩ | ⟨rfl, _⟩ <;> decide

theorem newL_grows {h : H} (hd : ∀ i y, h.get i = some y → i < h.next) (n : Nat) (cs : List IV) (e : TypeId) : Grows h (newL h n cs e) ∧ ∀ i y, (newL h n cs e).get i = some y → i < (newL h n cs e).next := by
  unfold newL
  split
  · exact ⟨Grows.refl h, hd⟩
  · exact ⟨⟨Nat.le_succ _, fun i y hi => by rw [H.get_new, if_neg (by have := hd _ _ hi; omega)]; exact hi⟩, dom_new hd⟩
theorem newL_get {h : H} {n : Nat} (hn : 0 < n) (cs : List IV) (e : TypeId) : (newL h n cs e).get h.next = some (.cells cs e, true) := by
  rw [newL_pos hn, H.get_new, if_pos rfl]

theorem choose_ok {rs : List (Int × Int)} {c : Int} {tk : Nat → Bool} (n : Int) : (chooseP rs c tk n).Nodup ∧ ∀ s ∈ chooseP rs c tk n, s ∈ free rs c tk := by
  unfold chooseP
  split
  · next h =>
    obtain ⟨_, h2, h3⟩ := search_ok rs c n.toNat n.toNat tk (Nat.le_refl _) (by omega)
    exact ⟨(sortN_perm _).nodup_iff.2 h2, fun s hs => h3 s (mem_sortN.1 hs)⟩
  · exact ⟨List.nodup_nil, fun s hs => nomatch hs⟩
theorem choose_len {rs : List (Int × Int)} {c : Int} {tk : Nat → Bool} (n : Int) : (chooseP rs c tk n).length ≤ (free rs c tk).length := by
  unfold chooseP
  split
  · next h =>
    rw [sortN_length, (search_ok rs c n.toNat n.toNat tk (Nat.le_refl _) (by omega)).1]; omega
  · exact Nat.zero_le _

structure Bytes (o1 : Option (Bx × Bool)) (bv : IV) (off : Nat) (x1 : Bx × Bool) (zs : List Nat) : Prop where
  len : ∀ h', builtinI tab .len [41] [bv] h' = some (.int .i64 (zs.length : Nat), h')
  ix : ∀ i, i < zs.length → indexAddrI tab 41 bv (.int .i64 i) = some (.ptr 1 (off + i))
  ld : ∀ i z, zs[i]? = some z → ldX x1 false 1 (off + i) = some (.int .u8 (z : Nat))
  get : zs.length = 0 ∨ o1 = some x1
  lt : ∀ z ∈ zs, z < 256

structure J5 (rs : List (Int × Int)) (hv : IV) (x1 : Bx × Bool) (zs : List Nat) (tk : Nat → Bool) (h : H) : Prop where
  dom : ∀ i y, h.get i = some y → i < h.next
  g1 : zs.length = 0 ∨ h.get 1 = some x1
  g2 : h.get 2 = some (.cells (rowC rs) 39, true)
  g3 : h.get 3 = some (.cells [hv] 24, true)
  g4 : h.get 4 = some (.cells (tkL tk) 25, true)
theorem J5.grow {rs : List (Int × Int)} {hv : IV} {x1 : Bx × Bool} {zs : List Nat} {tk : Nat → Bool} {h h' : H} (j : J5 rs hv x1 zs tk h) (hg : Grows h h') (hd : ∀ i y, h'.get i = some y → i < h'.next) : J5 rs hv x1 zs tk h' :=
  ⟨hd, j.g1.imp id (hg.2 _ _), hg.2 _ _ j.g2, hg.2 _ _ j.g3, hg.2 _ _ j.g4⟩

theorem dec_cast {a b : Nat} {t : Bool} (h : decide (a < b) = t) : IV.bool (decide ((a : Int) < b)) = .bool t := by
  rw [← h, Bool.eq_iff_iff.2 (by simp only [decide_eq_true_iff]; omega : decide ((a : Int) < b) = true ↔ decide (a < b) = true)]

theorem law5_sp {o0 o1 : Option (Bx × Bool)} {av bv : IV} {off0 off1 : Nat} {x0 x1 : Bx × Bool} {ps : List (Int × Int)} {zs : List Nat} (hp : Pairs (hL o0 o1) av 0 off0 x0 ps) (hz : Bytes o1 bv off1 x1 zs) :
    Sp Try.prog 5 [av, bv] (hL o0 o1) fun v _ => v = .bool true := by
  have hx := made_hall hp.m
  have hml := madeP_length ps
  have q0 := made_cl hp (hL_dom o0 o1)
  generalize hcp : madeC ps = cp at *
  generalize hrs : madeP ps = rs at *
  let hv : IV := .slice 2 0 rs.length cp
  refine Sp.of_ev tab_ok Try.func5 (c := bodyC Try.prog 5) (by kernel_rfl) (Nat.le_of_ble_eq_true rfl) ?_
  show Ev Try.prog none 101 (bodyC Try.prog 5) (BodyQ tab [.tmp 4] _) _ _
  refine Ev.of_flat l5_eq ?_
  refine EvS.px tab_ok mixed (FrIs.start 101 _) (by simp) (pre5 o0 o1 (hL o0 o1) (hL o0 o1) (hL o0 o1) hv av bv .nilslice .nilslice (fun _ => false) (fun _ => false) x1 0 0 0 0 0 0 0 0 0 0 0 [] rs) ⟨works_cl _, q0, rfl, trivial⟩ fun fr g hf => ?_
  have d0 : ∀ i y, (hL2 o0 o1 rs hv (fun _ => false)).get i = some y → i < (hL2 o0 o1 rs hv (fun _ => false)).next := dom_new (dom_new (dom_new (hL_dom o0 o1)))
  have j0 : J5 rs hv x1 zs (fun _ => false) (hL2 o0 o1 rs hv (fun _ => false)) := ⟨d0, hz.get.imp id fun e => by rw [e]; kernel_rfl, by kernel_rfl, by kernel_rfl, by kernel_rfl⟩
  refine EvS.loop (fun t fr h => ∃ i tk, i ≤ zs.length ∧ i ≤ 20 ∧ t = zs.length - i ∧ J5 rs hv x1 zs tk h ∧ ∃ g, FrIs 101 fr (ov [1, 5, 6, 7] (lvG bv i) g) []) zs.length
    ⟨0, _, by omega, by omega, by omega, j0, g, hf⟩ ?_
  rintro t fr h ⟨i, tk, hi, hi20, rfl, j, g, hf⟩
  refine Ev.of_flat r5_eq ?_
  by_cases hlt : i < zs.length ∧ i < 20
  case neg =>
    have hcond : ∀ lt l20, decide (i < zs.length) = lt → decide (i < 20) = l20 → AllP ([builtinI tab .len [41] [bv] h = some (.int .i64 (zs.length : Nat), h), IV.bool (decide ((i : Int) < zs.length)) = .bool lt] ++ (bif lt then [IV.bool (decide ((i : Int) < 20)) = .bool l20] else [])) := by
      intro lt l20 h1 h2
      refine AllP.mk_append ⟨hz.len h, dec_cast h1, trivial⟩ ?_
      cases lt with
      | false => trivial
      | true => exact ⟨dec_cast h2, trivial⟩
    refine EvS.px tab_ok mixed hf (by simp) (r5_end h h h hv av bv .nilslice .nilslice tk tk x1 0 i 0 zs.length 0 0 0 0 0 0 0 [] (decide (i < zs.length)) (decide (i < 20)) g (by
      rw [Bool.and_eq_false_iff, decide_eq_false_iff_not, decide_eq_false_iff_not]; omega)) (hcond _ _ rfl rfl) fun fr2 g2 hf2 => ?_
    simp only [Out.next]
    refine RoundEnds.out ?_
    refine EvS.pxEnd tab_ok mixed hf2 (List.cons_ne_nil _ _) (post5 h g2) trivial fun fr3 g3 hf3 => ?_
    have e4 : fr3.tm.tmp 4 = .bool true := hf3.2 4 (by decide)
    exact ⟨.inr rfl, h, [.bool true], by rw [hf3.1]; rfl, by simp only [resI, e4, Option.map_some], rfl⟩
  obtain ⟨hlt, hl20⟩ := hlt
  refine EvS.px tab_ok mixed hf (by simp) (r5_go h h h hv av bv .nilslice .nilslice tk tk x1 0 i 0 zs.length 0 0 0 0 0 0 0 [] g) ⟨hz.len h, by rw [decide_eq_true (by omega)], by rw [decide_eq_true (by omega)], trivial⟩ fun fr2 g2 hf2 => ?_
  obtain ⟨z, hzi⟩ : ∃ z, zs[i]? = some z := ⟨zs[i], by simp [hlt]⟩
  have hz256 := hz.lt z (List.mem_of_getElem? hzi)
  have g1 : h.get 1 = some x1 := j.g1.elim (fun e => by omega) id
  have ql := lengths_cl hx rfl (cOf z : Nat) tk j.g2
  have hsum := lens_sum (cOf z : Nat) tk rs
  have hf64 := free_le (rs := rs) (by omega) (cOf z : Nat) tk
  generalize hLL : lAll (cOf z : Nat) tk rs 0 [] = L at *
  obtain ⟨hg2, hd2⟩ := newL_grows j.dom L.length (nints L) 3
  have j2 := j.grow hg2 hd2
  have hq2 : 0 < L.length → (newL h L.length (nints L) 3).get h.next = some (.cells (nints L) 3, true) := fun hp => newL_get hp _ _
  generalize newL h L.length (nints L) 3 = h2 at *
  have qt : ∀ (h : H) (tk : Nat → Bool), J5 rs hv x1 zs tk h → AllP (oT h hv tk) := fun h tk j => ⟨j.g3, rfl, j.g4, tk_ld tk, trivial⟩
  refine Ev.block (Ev.of_flat m5_eq ?_)
  refine EvS.px tab_ok mixed hf2 (by simp) (m5_pre h h2 h hv av bv (slV h.next L.length) .nilslice tk tk x1 (off1 + i) i 0 0 L.length 0 z 0 0 0 0 [] g2) (AllP.mk_append (AllP.mk_append
    ⟨hz.ix i hlt, g1, hz.ld i z hzi, by rw [wrap64 (by omega) (by omega)], rfl, by rw [wrap64 (by omega) (by omega)]; rfl, hz.ix i hlt, g1, hz.ld i z hzi, by rw [wrap64 (by omega) (by omega)], ?_, rfl, trivial⟩ (qt h tk j)) ⟨ql, len_slV t27d _ _ _, trivial⟩) fun fr3 g3 hf3 => ?_
  · have : (z : Int).tdiv 8 = ((z / 8 : Nat) : Int) := by simp [Int.tdiv]
    rw [this, wrap64 (by omega) (by omega)]
  refine EvS.loop (fun t fr h' => ∃ k, k ≤ L.length ∧ t = L.length - k ∧ h' = h2 ∧ ∃ g, FrIs 101 fr (ov [1, 5, 6, 7, 8, 9, 10, 47, 48, 49] (lvM bv i z (L.take k).sum (slV h.next L.length) L.length k) g) []) L.length
    ⟨0, by omega, by omega, rfl, g3, hf3⟩ ?_
  rintro t fr h' ⟨k, hk, rfl, rfl, g, hf4⟩
  by_cases hkl : k < L.length
  · obtain ⟨v, hv'⟩ : ∃ v, L[k]? = some v := ⟨L[k], by simp [hkl]⟩
    have htk : (L.take (k + 1)).sum = (L.take k).sum + v := by rw [List.take_add_one, hv']; simp
    have hle : (L.take (k + 1)).sum ≤ L.sum := by
      conv => rhs; rw [← List.take_append_drop (k + 1) L]
      rw [List.sum_append]; omega
    have hLl : L.length ≤ 1000 := by
      have h1 : ∀ (rs : List (Int × Int)) (i : Nat) (out : List Nat), (lAll (cOf z : Nat) tk rs i out).length ≤ out.length + 9 * rs.length := by
        intro rs
        induction rs with
        | nil => intro i out; simp [lAll]
        | cons r rs ih =>
          intro i out
          have h2 : ∀ m p (st : List Nat × Nat), (lRow (cOf z : Nat) tk i r m p st).1.length ≤ st.1.length + m := by
            intro m
            induction m with
            | zero => intro p st; exact Nat.le_refl _
            | succ m ihm =>
              intro p st
              have h3 : (lstep (selAt (cOf z : Nat) tk i r p) st).1.length ≤ st.1.length + 1 := by
                unfold lstep
                cases selAt (cOf z : Nat) tk i r p with
                | true => simp
                | false => cases decide (0 < st.2) <;> simp
              have := ihm (p + 1) (lstep (selAt (cOf z : Nat) tk i r p) st)
              simp only [lRow]
              omega
          have h4 := h2 9 0 (out, 0)
          have h5 := ih (i + 1) (lRow (cOf z : Nat) tk i r 9 0 (out, 0)).1
          simp only [lAll, List.length_cons]
          simp only at h4
          omega
      have := h1 rs 0 []
      rw [hLL] at this
      simp at this
      omega
    refine Ev.px tab_ok mixed hf4 (s5_go h' h' h' hv av bv (slV h.next L.length) .nilslice tk tk x1 0 i k 0 L.length 0 z 0 h.next (L.take k).sum v L g) ⟨by rw [decide_eq_true (by omega)], by rw [slV_pos (by omega), ix_sl t27d t3s hkl]; simp, hq2 (by omega), by
        show (nints L)[k]? = _
        simp [nints, hv'], by rw [wrap64 (by omega) (by omega)]; rfl, w_i (by omega), trivial⟩ fun fr5 g5 hf5 => ?_
    exact ⟨L.length - (k + 1), by omega, k + 1, by omega, rfl, rfl, g5, by rw [htk]; exact hf5⟩
  obtain rfl : k = L.length := by omega
  rw [List.take_length] at hf4
  refine Ev.px tab_ok mixed hf4 (s5_end h' h' h' hv av bv (slV h.next L.length) .nilslice tk tk x1 0 i L.length 0 L.length 0 z 0 0 L.sum 0 [] g) ⟨by rw [decide_eq_false (by omega)], trivial⟩ fun fr5 g5 hf5 => ?_
  refine RoundEnds.out ?_
  rw [m5_eq2]
  have qc := choose_cl hx (cOf z : Nat) (nOf z : Nat) tk j2.g2
  obtain ⟨hnd, hfree⟩ := choose_ok (rs := rs) (c := (cOf z : Nat)) (tk := tk) (nOf z : Nat)
  have hPl := choose_len (rs := rs) (c := (cOf z : Nat)) (tk := tk) (nOf z : Nat)
  have hok : okP rs (cOf z : Nat) tk (nOf z : Nat) = decide ((L.sum : Int) ≥ (nOf z : Nat)) := by
    unfold okP
    have hn1 : 1 ≤ nOf z := by unfold nOf; omega
    generalize nOf z = m at *
    rw [hsum, Bool.eq_iff_iff, decide_eq_true_iff, decide_eq_true_iff]
    omega
  generalize chooseP rs (cOf z : Nat) tk (nOf z : Nat) = P at *
  obtain ⟨hg3, hd3⟩ := newL_grows j2.dom P.length (nints P) 3
  have j3 := j2.grow hg3 hd3
  have hq3 : 0 < P.length → (newL h' P.length (nints P) 3).get h'.next = some (.cells (nints P) 3, true) := fun hp => newL_get hp _ _
  have h4n := j2.dom _ _ j2.g4
  generalize newL h' P.length (nints P) 3 = h3 at *
  refine EvS.px tab_ok mixed hf5 (by simp) (m5_mid h' h' h3 hv av bv .nilslice (slV h'.next P.length) tk tk x1 0 i 0 0 0 0 z 0 0 L.sum 0 [] (okP rs (cOf z : Nat) tk (nOf z : Nat)) (okP rs (cOf z : Nat) tk (nOf z : Nat)) g5)
    (AllP.mk_append (qt h' tk j2) ⟨qc, by rw [hok], by simp, trivial⟩) fun fr6 g6 hf6 => ?_
  refine EvS.loop (fun t fr h => ∃ k, k ≤ P.length ∧ t = P.length - k ∧ J5 rs hv x1 zs (mark tk (P.take k)) h ∧ (P.length = 0 ∨ h.get h'.next = some (.cells (nints P) 3, true)) ∧ ∃ g, FrIs 101 fr (ov [1, 5, 6, 7, 13, 15] (lvN bv i (slV h'.next P.length) k) g) []) P.length
    ⟨0, by omega, by omega, by rw [List.take_zero, mark_nil]; exact j3, by
      rcases Nat.eq_zero_or_pos P.length with e | e
      · exact .inl e
      · exact .inr (hq3 e), g6, hf6⟩ ?_
  rintro t fr h4 ⟨k, hk, rfl, j4, hq4, g, hf7⟩
  by_cases hkl : k < P.length
  · obtain ⟨s, hs⟩ : ∃ s, P[k]? = some s := ⟨P[k], by simp [hkl]⟩
    have hsf := hfree s (List.mem_of_getElem? hs)
    have hs64 := free_lt (rs := rs) (by omega) hsf
    have hst := (mem_free.1 hsf).2
    have hsn : s ∉ P.take k := by
      intro hm
      have h1 : P = P.take k ++ P.drop k := (List.take_append_drop k P).symm
      rw [h1] at hnd
      have h2 : P.drop k = s :: P.drop (k + 1) := by
        rw [List.drop_eq_getElem_cons hkl]
        rw [List.getElem?_eq_getElem hkl] at hs
        cases hs; rfl
      exact (List.nodup_append.1 hnd).2.2 s hm s (by rw [h2]; exact List.mem_cons_self ..) rfl
    have htk : mark tk (P.take k) s = false := by simp [mark, hst, hsn]
    have hgq : h4.get h'.next = some (.cells (nints P) 3, true) := hq4.elim (fun e => by omega) id
    have qS : AllP (oS h4 (slV h'.next P.length) h'.next k s P) := ⟨by rw [slV_pos (by omega), ix_sl t27d t3s hkl]; simp, hgq, by
        show (nints P)[k]? = _
        simp [nints, hs], trivial⟩
    have qix : indexAddrI tab 25 (.ptr 4 0) (.int .i64 (s : Nat)) = some (.ptr 4 s) := by rw [ix_arr t25d t4s hs64]; simp
    have htake : P.take (k + 1) = P.take k ++ [s] := by rw [List.take_add_one, hs]; rfl
    refine Ev.px tab_ok mixed hf7 (t5_go h4 h4 h4 hv av bv .nilslice (slV h'.next P.length) (mark tk (P.take k)) (mark tk (P.take (k + 1))) x1 0 i k 0 0 P.length z 0 h'.next 0 s P true true g)
      (AllP.mk_append (AllP.mk_append (AllP.mk_append (AllP.mk_append (AllP.mk_append (AllP.mk_append (AllP.mk_append (AllP.mk_append ⟨len_slV t27d _ _ _, by rw [decide_eq_true (by omega)], trivial⟩ qS) ⟨by rw [decide_eq_false (by omega)], trivial⟩) qS) ⟨by rw [decide_eq_false (by omega)], trivial⟩) qS)
        ⟨qix, j4.g4, by
          show (tkL (mark tk (P.take k)))[s]? = _
          rw [tkL_get hs64, htk], trivial⟩) qS) ⟨qix, j4.g4, tk_set hs64 fun i => by rw [htake, mark_snoc], w_i (by omega), trivial⟩) fun fr8 g8 hf8 => ?_
    refine ⟨P.length - (k + 1), by omega, k + 1, by omega, rfl, ⟨dom_put j4.g4 j4.dom, ?_, ?_, ?_, ?_⟩, .inr ?_, g8, hf8⟩
    · refine j4.g1.imp id fun e => ?_
      rw [H.get_put, if_neg (by decide)]; exact e
    · rw [H.get_put, if_neg (by decide)]; exact j4.g2
    · rw [H.get_put, if_neg (by decide)]; exact j4.g3
    · rw [H.get_put, if_pos rfl]
    · rw [H.get_put, if_neg (by omega)]; exact hgq
  obtain rfl : k = P.length := by omega
  refine Ev.px tab_ok mixed hf7 (t5_end h4 h4 h4 hv av bv .nilslice (slV h'.next P.length) tk tk x1 0 i P.length 0 0 P.length z 0 0 0 0 [] true true g) ⟨len_slV t27d _ _ _, by rw [decide_eq_false (by omega)], trivial⟩ fun fr8 g8 hf8 => ?_
  refine RoundEnds.out ?_
  show EvS Try.prog none 101 (r5.drop 3) _ fr8 h4
  refine EvS.pxEnd tab_ok mixed hf8 (List.cons_ne_nil _ _) (r5_inc h4 h4 h4 hv av bv .nilslice .nilslice tk tk x1 0 i 0 0 0 0 0 0 0 0 0 [] g8) ⟨w_i (by omega), trivial⟩ fun fr9 g9 hf9 => ?_
  exact ⟨zs.length - (i + 1), by omega, i + 1, _, by omega, by omega, rfl, j4, g9, hf9⟩
end Go.Proofs.Ytjhgomacanffkaa
