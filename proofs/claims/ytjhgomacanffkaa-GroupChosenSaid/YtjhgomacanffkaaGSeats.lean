/- The closure of hall.seats for any consumer; hall.Seats as a contract. -/
import Derived.Test.YtjhgomacanffkaaGBase
namespace Go.Proofs.Ytjhgomacanffkaa
open Go Sx Go.RowKit

def blkAt (l : List Code) (k : Nat) : Code := match l[k]? with
  | some (.block _ c) => c
  | _ => .skip
noncomputable def l35 : List Code := flat (bodyC Try.prog 35)
theorem l35_eq : flat (bodyC Try.prog 35) = l35.take 1 ++ (.block 0 (.loop (loopAt l35 1)) :: []) := by kernel_rfl
noncomputable def r35 : List Code := flat (loopAt l35 1)
theorem r35_eq : flat (loopAt l35 1) = r35.take 2 ++ (.block 1 (blkAt r35 2) :: r35.drop 3) := by kernel_rfl
noncomputable def m35 : List Code := flat (blkAt r35 2)
theorem m35_eq : flat (blkAt r35 2) = m35.take 2 ++ (.block 2 (.loop (loopAt m35 2)) :: []) := by kernel_rfl

abbrev row (r : Int × Int) : List IV := [.int .i64 r.1, .int .u8 r.2]
abbrev rowB (r : Int × Int) : Bx := .cells (row r) 39

def ocA (n M : Nat) (hv sv : IV) (wr : Bool) (h : H) : Nat → Nat → Option It := fun f t => match f, t with
  | 35, 7 => some (.l hv (.cells [hv] 24, wr))
  | 35, 9 => some (.l hv (.cells [hv] 24, wr))
  | 35, 11 => some (.w (.int .i64 M))
  | 35, 12 => some (.o sv)
  | _, _ => none
theorem pre35 (h : H) (yv : IV) (bh b off n M : Nat) (c c' : Cap) (wr : Bool) :
    psR Try.prog tab (ocA n M (.slice b off n c) (.slice b off M c') wr h) 50 35 none 41 (l35.take 1) (canon 41 (fun j => [yv, IV.ptr bh 0].getD j undefI) []) h [0, 12, 13, 14] =
  some (.normal, [yv, .slice b off M c', .int .i64 M, .int .i64 (0 : Nat)], h, [], [h.get bh = some (.cells [.slice b off n c] 24, wr), ldX (.cells [.slice b off n c] 24, wr) false 1 0 = some (.slice b off n c),
    h.get bh = some (.cells [.slice b off n c] 24, wr), ldX (.cells [.slice b off n c] 24, wr) false 1 0 = some (.slice b off n c),
    IV.int .i64 (if (8 : Int) < n then 8 else n) = .int .i64 M, sliceI tab 22 (.slice b off n c) none (some (.int .i64 M)) none h = some (.slice b off M c')]) := by kernel_rfl

/-! ### A round over the rows -/
def ocB (b off i : Nat) (r : Int × Int) (x : Bx × Bool) (lt : Bool) : Nat → Nat → Option It := fun f t => match f, t with
  | 35, 15 => some (.w (.bool lt))
  | 35, 17 => some (.o (.ptr b (off + i * 2)))
  | 35, 18 => some (.l (.agg (row r)) x)
  | 35, 1004 => some (.t [.int .i64 0, .int .u8 0] 39 (row r))
  | 35, 40 => some (.w (.int .i64 ((i + 1 : Nat) : Int)))
  | _, _ => none
theorem rA_end (h : H) (yv : IV) (b off M i : Nat) (c' : Cap) (x : Bx × Bool) (g : Nat → IV) :
    psR Try.prog tab (ocB b off i (0, 0) x false) 50 35 none 41 (r35.take 2) (canon 41 (ov [0, 12, 13, 14] [yv, .slice b off M c', .int .i64 M, .int .i64 i] g) []) h [] =
  some (.exit 0, [], h, [], [IV.bool (decide ((i : Int) < M)) = .bool false]) := by kernel_rfl
theorem rA_go (h : H) (yv : IV) (b off M i : Nat) (c' : Cap) (x : Bx × Bool) (g : Nat → IV) :
    psR Try.prog tab (ocB b off i (0, 0) x true) 50 35 none 41 (r35.take 2) (canon 41 (ov [0, 12, 13, 14] [yv, .slice b off M c', .int .i64 M, .int .i64 i] g) []) h [0, 12, 13, 14] =
  some (.normal, [yv, .slice b off M c', .int .i64 M, .int .i64 i], h, [], [IV.bool (decide ((i : Int) < M)) = .bool true]) := by kernel_rfl
theorem mA (h : H) (yv : IV) (b off M i : Nat) (c' : Cap) (x : Bx × Bool) (r : Int × Int) (g : Nat → IV) :
    psR Try.prog tab (ocB b off i r x true) 50 35 none 41 (m35.take 2) (canon 41 (ov [0, 12, 13, 14] [yv, .slice b off M c', .int .i64 M, .int .i64 i] g) []) h [0, 3, 4, 12, 13, 14, 19] =
  some (.normal, [yv, .int .i64 i, .ptr h.next 0, .slice b off M c', .int .i64 M, .int .i64 i, .int .i64 (0 : Nat)], (h.new (.cells [.int .i64 0, .int .u8 0] 39)).put h.next (rowB r), [],
    [indexAddrI tab 22 (.slice b off M c') (.int .i64 i) = some (.ptr b (off + i * 2)), h.get b = some x, ldX x true 2 (off + i * 2) = some (.agg (row r)),
     (h.new (.cells [.int .i64 0, .int .u8 0] 39)).get h.next = some (.cells [.int .i64 0, .int .u8 0] 39, true), stC 2 [.int .i64 0, .int .u8 0] 0 (.agg (row r)) = some (row r)]) := by kernel_rfl
theorem rB (h : H) (yv : IV) (b off M i : Nat) (c' : Cap) (x : Bx × Bool) (g : Nat → IV) :
    psR Try.prog tab (ocB b off i (0, 0) x true) 50 35 none 41 (r35.drop 3) (canon 41 (ov [0, 12, 13, 14] [yv, .slice b off M c', .int .i64 M, .int .i64 i] g) []) h [0, 12, 13, 14] =
  some (.normal, [yv, .slice b off M c', .int .i64 M, .int .i64 ((i + 1 : Nat) : Int)], h, [], [IV.int .i64 (IntKind.wrap .i64 ((i : Int) + 1)) = .int .i64 ((i + 1 : Nat) : Int)]) := by kernel_rfl

/-! ### A round over the places -/
def ocC (i p q : Nat) (r : Int × Int) (s a : Int) (lt bt go : Bool) (h' : H) : Nat → Nat → Option It := fun f t => match f, t with
  | 35, 20 => some (.w (.bool lt))
  | 35, 23 => some (.l (.int .u8 r.2) (rowB r, true))
  | 35, 25 => some (.o (.int .u8 s))
  | 35, 26 => some (.w (.int .u8 a))
  | 35, 27 => some (.w (.bool bt))
  | 35, 31 => some (.w (.int .i64 ((8 * i : Nat) : Int)))
  | 35, 33 => some (.w (.int .i64 ((8 * i + p : Nat) : Int)))
  | 35, 35 => some (.l (.int .i64 r.1) (rowB r, true))
  | 35, 36 => some (.c (.bool go) h')
  | 35, 39 => some (.w (.int .i64 ((p + 1 : Nat) : Int)))
  | _, _ => none
def lvC (yv : IV) (i q p : Nat) (b off M : Nat) (c' : Cap) : List IV := [yv, .int .i64 i, .ptr q 0, .slice b off M c', .int .i64 M, .int .i64 i, .int .i64 p]
theorem in_end (h : H) (yv : IV) (i q p b off M : Nat) (c' : Cap) (r : Int × Int) (g : Nat → IV) :
    pxR Try.prog tab (ocC i p q r 0 0 false false false h) 50 35 none 41 (loopAt m35 2) (canon 41 (ov [0, 3, 4, 12, 13, 14, 19] (lvC yv i q p b off M c') g) []) h [0, 12, 13, 14] =
  some (.exit 2, [yv, .slice b off M c', .int .i64 M, .int .i64 i], h, [], [IV.bool (decide ((p : Int) < 8)) = .bool false]) := by kernel_rfl
theorem in_no (h : H) (yv : IV) (i q p b off M : Nat) (c' : Cap) (r : Int × Int) (s a : Int) (g : Nat → IV) :
    pxR Try.prog tab (ocC i p q r s a true false false h) 50 35 none 41 (loopAt m35 2) (canon 41 (ov [0, 3, 4, 12, 13, 14, 19] (lvC yv i q p b off M c') g) []) h [0, 3, 4, 12, 13, 14, 19] =
  some (.normal, lvC yv i q (p + 1) b off M c', h, [], [IV.bool (decide ((p : Int) < 8)) = .bool true, h.get q = some (rowB r, true), ldX (rowB r, true) false 1 1 = some (.int .u8 r.2),
    binI tab .shr 5 (.tmp 0) (.tmp 0) (.int .u8 r.2) (.int .i64 p) = some (.int .u8 s), IV.int .u8 (IntKind.wrap .u8 (BitVec.ofInt 8 s &&& BitVec.ofInt 8 1).toNat) = .int .u8 a, IV.bool (a == 1) = .bool false,
    IV.int .i64 (IntKind.wrap .i64 ((p : Int) + 1)) = .int .i64 ((p + 1 : Nat) : Int)]) := by kernel_rfl
theorem in_yes (h h' : H) (yv : IV) (i q p b off M : Nat) (c' : Cap) (r : Int × Int) (s a : Int) (g : Nat → IV) :
    pxR Try.prog tab (ocC i p q r s a true true true h') 50 35 none 41 (loopAt m35 2) (canon 41 (ov [0, 3, 4, 12, 13, 14, 19] (lvC yv i q p b off M c') g) []) h [0, 3, 4, 12, 13, 14, 19] =
  some (.normal, lvC yv i q (p + 1) b off M c', h', [], [IV.bool (decide ((p : Int) < 8)) = .bool true, h.get q = some (rowB r, true), ldX (rowB r, true) false 1 1 = some (.int .u8 r.2),
    binI tab .shr 5 (.tmp 0) (.tmp 0) (.int .u8 r.2) (.int .i64 p) = some (.int .u8 s), IV.int .u8 (IntKind.wrap .u8 (BitVec.ofInt 8 s &&& BitVec.ofInt 8 1).toNat) = .int .u8 a, IV.bool (a == 1) = .bool true,
    IV.int .i64 (IntKind.wrap .i64 (8 * (i : Int))) = .int .i64 ((8 * i : Nat) : Int), IV.int .i64 (IntKind.wrap .i64 (((8 * i : Nat) : Int) + p)) = .int .i64 ((8 * i + p : Nat) : Int),
    h.get q = some (rowB r, true), ldX (rowB r, true) false 1 0 = some (.int .i64 r.1), ClEq Try.prog yv [.int .i64 ((8 * i + p : Nat) : Int), .int .i64 r.1] h (.bool true) h',
    IV.int .i64 (IntKind.wrap .i64 ((p : Int) + 1)) = .int .i64 ((p + 1 : Nat) : Int)]) := by kernel_rfl
theorem in_stop (h h' : H) (yv : IV) (i q p b off M : Nat) (c' : Cap) (r : Int × Int) (s a : Int) (g : Nat → IV) :
    pxR Try.prog tab (ocC i p q r s a true true false h') 50 35 none 41 (loopAt m35 2) (canon 41 (ov [0, 3, 4, 12, 13, 14, 19] (lvC yv i q p b off M c') g) []) h [] =
  some (.ret, [], h', [], [IV.bool (decide ((p : Int) < 8)) = .bool true, h.get q = some (rowB r, true), ldX (rowB r, true) false 1 1 = some (.int .u8 r.2),
    binI tab .shr 5 (.tmp 0) (.tmp 0) (.int .u8 r.2) (.int .i64 p) = some (.int .u8 s), IV.int .u8 (IntKind.wrap .u8 (BitVec.ofInt 8 s &&& BitVec.ofInt 8 1).toNat) = .int .u8 a, IV.bool (a == 1) = .bool true,
    IV.int .i64 (IntKind.wrap .i64 (8 * (i : Int))) = .int .i64 ((8 * i : Nat) : Int), IV.int .i64 (IntKind.wrap .i64 (((8 * i : Nat) : Int) + p)) = .int .i64 ((8 * i + p : Nat) : Int),
    h.get q = some (rowB r, true), ldX (rowB r, true) false 1 0 = some (.int .i64 r.1), ClEq Try.prog yv [.int .i64 ((8 * i + p : Nat) : Int), .int .i64 r.1] h (.bool false) h']) := by kernel_rfl
end Go.Proofs.Ytjhgomacanffkaa
namespace Go.Proofs.Ytjhgomacanffkaa
open Go Sx Go.RowKit

theorem shr_ok {m : Int} (h0 : 0 ≤ m) {p : Nat} (hp : p < 8) : binI tab .shr 5 (.tmp 0) (.tmp 0) (.int .u8 m) (.int .i64 p) = some (.int .u8 ((m.toNat / 2 ^ p : Nat) : Int)) := by
  obtain ⟨k, rfl⟩ : ∃ k : Nat, m = k := ⟨m.toNat, by omega⟩
  simp only [binI, shiftI]
  rw [if_neg (by omega), show min (p : Int).toNat (IntKind.u8.bits) = p by simp [IntKind.bits]; omega]
  have : ((2 : Int) ^ p) = ((2 ^ p : Nat) : Int) := by simp
  rw [this, Int.toNat_natCast, Int.fdiv_eq_ediv_of_nonneg _ (Int.natCast_nonneg _)]
  rfl
theorem and_ok (k : Nat) : IV.int .u8 (IntKind.wrap .u8 (BitVec.ofInt 8 (k : Int) &&& BitVec.ofInt 8 1).toNat) = .int .u8 ((k % 2 : Nat) : Int) := by
  have h1 : (BitVec.ofInt 8 (k : Int) &&& BitVec.ofInt 8 1).toNat = k % 2 := by
    rw [BitVec.toNat_and, BitVec.toNat_ofInt, BitVec.toNat_ofInt]
    have e1 : ((k : Int) % (2 ^ 8 : Nat)).toNat = k % 256 := by omega
    have e2 : ((1 : Int) % (2 ^ 8 : Nat)).toNat = 1 := by decide
    rw [e1, e2, Nat.and_one_is_mod]
    omega
  rw [h1]
  simp only [IntKind.wrap, IntKind.bits, IntKind.signed, Bool.false_and, Bool.false_eq_true, if_false]
  congr 1
  omega
theorem bit_ok (m : Int) (p : Nat) {b : Bool} (hb : bit m p = b) : IV.bool (((m.toNat / 2 ^ p % 2 : Nat) : Int) == 1) = .bool b := by
  subst hb
  unfold bit
  generalize m.toNat / 2 ^ p % 2 = a
  rw [show ((a : Int) == 1) = decide (a = 1) by rw [Bool.eq_iff_iff, beq_iff_eq, decide_eq_true_iff]; omega]

def Grows (h h' : H) : Prop := h.next ≤ h'.next ∧ ∀ i y, h.get i = some y → h'.get i = some y
theorem Grows.refl (h : H) : Grows h h := ⟨Nat.le_refl _, fun _ _ h => h⟩
theorem Grows.trans {a b c : H} (h : Grows a b) (h' : Grows b c) : Grows a c := ⟨Nat.le_trans h.1 h'.1, fun i y hi => h'.2 i y (h.2 i y hi)⟩
def Kept (own own' : List Nat) (h h' : H) : Prop := h.next ≤ h'.next ∧ ∀ i y, h.get i = some y → i ∉ own → h'.get i = some y ∧ i ∉ own'

theorem w_i {n : Nat} (h : n < 100000) : IV.int .i64 (IntKind.wrap .i64 ((n : Int) + 1)) = .int .i64 ((n + 1 : Nat) : Int) := by
  rw [wrap64 (by omega) (by omega)]; rfl

/-- The heap in which a consumer runs. -/
structure Con (h0 : H) (bh b : Nat) (hv : IV) (wr : Bool) (x : Bx × Bool) (J : List (Nat × Int) → List Nat → H → Prop) : Prop where
  lt : ∀ d own h, J d own h → (∀ i ∈ own, i < h.next) ∧ bh ∉ own ∧ b ∉ own
  bh : ∀ d own h, J d own h → h.get bh = some (.cells [hv] 24, wr)
  b : ∀ d own h, J d own h → h.get b = some x
  dom : ∀ d own h, J d own h → ∀ i y, h.get i = some y → i < h.next
  ext : ∀ d own h h', J d own h → Grows h h' → (∀ i y, h'.get i = some y → i < h'.next) → J d own h'

theorem sp35 {h0 : H} {bh b off n : Nat} {c c' : Cap} {wr : Bool} {x : Bx × Bool} {yv : IV} {rs : List (Int × Int)} (J : List (Nat × Int) → List Nat → H → Prop) (R : H → Prop)
    (hJ : Con h0 bh b (.slice b off n c) wr x J)
    (hrows : ∀ i r, rs[i]? = some r → ldX x true 2 (off + i * 2) = some (.agg (row r))) (hn : rs.length = min n 8)
    (hm : ∀ r ∈ rs, 0 ≤ r.2 ∧ r.2 < 256)
    (hcut : ∀ h, h.get b = some x → sliceI tab 22 (.slice b off n c) none (some (.int .i64 (rs.length : Nat))) none h = some (.slice b off rs.length c'))
    (hcons : ∀ d s t own h, d ++ s :: t = allS rs 0 → J d own h → ∃ v h', ClEq Try.prog yv [.int .i64 (s.1 : Nat), .int .i64 s.2] h (.bool v) h' ∧
      ((v = true ∧ ∃ own', J (d ++ [s]) own' h' ∧ Kept own own' h h') ∨ (v = false ∧ R h')))
    {own0 : List Nat} (hJ0 : J [] own0 h0) : Sp Try.prog 35 [yv, .ptr bh 0] h0 (fun v h' => v = .tup [] ∧ ((∃ own, J (allS rs 0) own h') ∨ R h')) := by
  refine Sp.of_ev tab_ok Try.func35 (c := bodyC Try.prog 35) (by kernel_rfl) (Nat.le_of_ble_eq_true rfl) ?_
  show Ev Try.prog none 41 (bodyC Try.prog 35) (BodyQ tab [] _) _ _
  refine Ev.of_flat l35_eq ?_
  have hM : IV.int .i64 (if (8 : Int) < n then 8 else n) = .int .i64 ((rs.length : Nat) : Int) := by
    rw [hn]
    split
    · rw [Nat.min_eq_right (by omega)]; rfl
    · rw [Nat.min_eq_left (by omega)]
  refine EvS.px tab_ok mixed (FrIs.start 41 _) (by simp) (pre35 h0 yv bh b off n rs.length c c' wr) ⟨hJ.bh _ _ _ hJ0, rfl, hJ.bh _ _ _ hJ0, rfl, hM, hcut h0 (hJ.b _ _ _ hJ0), trivial⟩ fun fr g hf => ?_
  refine EvS.loop (fun m fr h => ∃ i d own, i ≤ rs.length ∧ m = rs.length - i ∧ d ++ allS (rs.drop i) i = allS rs 0 ∧ J d own h ∧ ∃ g, FrIs 41 fr (ov [0, 12, 13, 14] [yv, .slice b off rs.length c', .int .i64 (rs.length : Nat), .int .i64 (i : Nat)] g) []) rs.length
    ⟨0, [], own0, by omega, by omega, rfl, hJ0, g, hf⟩ ?_
  rintro m fr h ⟨i, d, own, hi, rfl, hd, hj, g, hf⟩
  have h8 : rs.length ≤ 8 := by omega
  refine Ev.of_flat r35_eq ?_
  by_cases hlt : i < rs.length
  case neg =>
    have hie : i = rs.length := by omega
    subst hie
    refine EvS.px tab_ok mixed hf (by simp) (rA_end h yv b off rs.length rs.length c' x g) ⟨by rw [decide_eq_false (by omega)], trivial⟩ fun fr' g' hf' => ?_
    simp only [Out.next]
    refine RoundEnds.out ?_
    rw [List.drop_length] at hd
    simp only [allS, List.append_nil] at hd
    subst hd
    refine ⟨.inl rfl, h, [], ?_, rfl, rfl, .inl ⟨own, hj⟩⟩
    rw [hf'.1]; rfl
  refine EvS.px tab_ok mixed hf (by simp) (rA_go h yv b off rs.length i c' x g) ⟨by rw [decide_eq_true (by omega)], trivial⟩ fun fr' g' hf' => ?_
  obtain ⟨r, hr⟩ : ∃ r, rs[i]? = some r := ⟨rs[i], by simp [hlt]⟩
  have hrm := hm r (List.mem_of_getElem? hr)
  have hdrop : rs.drop i = r :: rs.drop (i + 1) := by
    rw [List.drop_eq_getElem_cons hlt]
    rw [List.getElem?_eq_getElem hlt] at hr
    cases hr; rfl
  rw [hdrop] at hd
  simp only [allS] at hd
  refine Ev.block (Ev.of_flat m35_eq ?_)
  have hdom := hJ.dom _ _ _ hj
  have hnew : (h.new (.cells [.int .i64 0, .int .u8 0] 39)).get h.next = some (.cells [.int .i64 0, .int .u8 0] 39, true) := by rw [H.get_new, if_pos rfl]
  refine EvS.px tab_ok mixed hf' (by simp) (mA h yv b off rs.length i c' x r g') ⟨ix_sl t22d t39s hlt, hJ.b _ _ _ hj, hrows i r hr, hnew, rfl, trivial⟩ fun fr2 g2 hf2 => ?_
  generalize hh1 : (h.new (.cells [.int .i64 0, .int .u8 0] 39)).put h.next (rowB r) = h1 at *
  have hg1 : h1.get h.next = some (rowB r, true) := by rw [← hh1, H.get_put, if_pos rfl]
  have hgr : Grows h h1 := by
    rw [← hh1]
    refine ⟨by simp, fun j y hy => ?_⟩
    have := hdom j y hy
    rw [H.get_put, if_neg (by omega), H.get_new, if_neg (by omega), hy]
  have hdom1 : ∀ j y, h1.get j = some y → j < h1.next := by
    intro j y hy
    rw [← hh1] at hy ⊢
    rw [H.get_put] at hy
    simp only [H.next_put, H.next_new]
    by_cases e : h.next = j
    · omega
    · rw [if_neg e, H.get_new, if_neg e] at hy
      have := hdom j y hy
      omega
  have hj1 := hJ.ext _ _ _ _ hj hgr hdom1
  have hq1 : h.next ∉ own := fun hmem => by have := (hJ.lt _ _ _ hj).1 _ hmem; omega
  refine EvS.loop (fun m fr h => ∃ q k p d own, k + p = 8 ∧ m = k ∧ d ++ (rowS i r k p ++ allS (rs.drop (i + 1)) (i + 1)) = allS rs 0 ∧ J d own h ∧ h.get q = some (rowB r, true) ∧ q ∉ own ∧
      ∃ g, FrIs 41 fr (ov [0, 3, 4, 12, 13, 14, 19] (lvC yv i q p b off rs.length c') g) []) 8
    ⟨_, 8, 0, d, own, by omega, rfl, hd, hj1, hg1, hq1, g2, hf2⟩ ?_
  rintro k fr h ⟨q, _, p, d, own, hkp, rfl, hd, hj, hq, hqo, g, hf⟩
  cases k with
  | zero =>
    obtain rfl : p = 8 := by omega
    refine Ev.px tab_ok mixed hf (in_end h yv i _ 8 b off rs.length c' r g) ⟨rfl, trivial⟩ fun fr3 g3 hf3 => ?_
    refine RoundEnds.out ?_
    show EvS Try.prog none 41 (r35.drop 3) _ fr3 h
    refine EvS.pxEnd tab_ok mixed hf3 (List.cons_ne_nil _ _) (rB h yv b off rs.length i c' x g3) ⟨w_i (by omega), trivial⟩ fun fr4 g4 hf4 => ?_
    exact ⟨_, by omega, i + 1, d, own, by omega, rfl, hd, hj, g4, hf4⟩
  | succ k =>
    have hp : p < 8 := by omega
    have c1 : IV.bool (decide ((p : Int) < 8)) = .bool true := by rw [decide_eq_true (by omega)]
    have c2 := shr_ok hrm.1 hp
    have c3 := and_ok (r.2.toNat / 2 ^ p)
    have c5 : IV.int .i64 (IntKind.wrap .i64 ((p : Int) + 1)) = .int .i64 ((p + 1 : Nat) : Int) := w_i (by omega)
    cases hb : bit r.2 p with
    | false =>
      refine Ev.px tab_ok mixed hf (in_no h yv i _ p b off rs.length c' r _ _ g) ⟨c1, hq, rfl, c2, c3, bit_ok _ _ hb, c5, trivial⟩ fun fr3 g3 hf3 => ?_
      refine ⟨k, by omega, q, k, p + 1, d, own, by omega, rfl, ?_, hj, hq, hqo, g3, hf3⟩
      simpa [rowS, hb] using hd
    | true =>
      have e1 : IV.int .i64 (IntKind.wrap .i64 (8 * (i : Int))) = .int .i64 ((8 * i : Nat) : Int) := by rw [wrap64 (by omega) (by omega)]; rfl
      have e2 : IV.int .i64 (IntKind.wrap .i64 (((8 * i : Nat) : Int) + p)) = .int .i64 ((8 * i + p : Nat) : Int) := by rw [wrap64 (by omega) (by omega)]; rfl
      have hd2 : d ++ (8 * i + p, r.1) :: (rowS i r k (p + 1) ++ allS (rs.drop (i + 1)) (i + 1)) = allS rs 0 := by simpa [rowS, hb] using hd
      obtain ⟨v, h', hcl, hv⟩ := hcons d (8 * i + p, r.1) _ own h hd2 hj
      rcases hv with ⟨rfl, own', hj', hk⟩ | ⟨rfl, hR⟩
      · refine Ev.px tab_ok mixed hf (in_yes h h' yv i _ p b off rs.length c' r _ _ g) ⟨c1, hq, rfl, c2, c3, bit_ok _ _ hb, e1, e2, hq, rfl, hcl, c5, trivial⟩ fun fr3 g3 hf3 => ?_
        obtain ⟨hq', hqo'⟩ := hk.2 _ _ hq hqo
        exact ⟨k, by omega, q, k, p + 1, _, own', by omega, rfl, by simpa using hd2, hj', hq', hqo', g3, hf3⟩
      · refine Ev.px tab_ok mixed hf (in_stop h h' yv i _ p b off rs.length c' r _ _ g) ⟨c1, hq, rfl, c2, c3, bit_ok _ _ hb, e1, e2, hq, rfl, hcl, trivial⟩ fun fr3 g3 hf3 => ?_
        refine ⟨.inr rfl, h', [], ?_, rfl, rfl, .inr hR⟩
        rw [hf3.1]; rfl
end Go.Proofs.Ytjhgomacanffkaa
namespace Go.Proofs.Ytjhgomacanffkaa
open Go Sx Go.RowKit

theorem src_ok {t e sz : Nat} (ht : (tab.get t).map Ty.d = some (.slice e)) {h : H} {b n : Nat} {c : Cap} {news : List IV} {e' : TypeId} {wr : Bool} (hg : h.get b = some (.cells news e', wr)) (hl : news.length = n * sz) (hone : news.all IV.one = true) :
    srcI tab t sz (.slice b 0 n c) h = some (n, news) := by
  unfold srcI
  cases h1 : tab.get t with
  | none => rw [h1] at ht; cases ht
  | some ty =>
    rw [h1] at ht
    simp only [Option.map_some, Option.some.injEq] at ht
    simp only [ht, hg, Nat.zero_add, List.drop_zero, ← hl, List.take_length, hone, Bool.and_true, Nat.ble_eq_true_of_le (Nat.le_refl _), cond_true]

section
variable {t e sz bt : Nat} (ht : (tab.get t).map Ty.d = some (.slice e)) (he : (tab.get e).map (fun y => (y.size, y.bytes, y.zv.cells.length)) = some (sz, bt, sz)) (hbt : bt ≤ 100)
include ht he
include hbt in
theorem app_nil {h : H} {b n : Nat} {c : Cap} {news : List IV} {e' : TypeId} {wr : Bool} (hg : h.get b = some (.cells news e', wr)) (hl : news.length = n * sz) (hone : news.all IV.one = true) (h0 : 0 < n) (hn : n ≤ 100000) :
    builtinI tab .append [t, t] [.nilslice, .slice b 0 n c] h = some (.slice h.next 0 n (.soft 0), h.new (.cells news e)) := by
  have hs := src_ok ht (c := c) hg hl hone
  show appendI tab t t .nilslice (.slice b 0 n c) h = _
  unfold appendI
  cases h1 : tab.get t with
  | none => rw [h1] at ht; cases ht
  | some ty =>
    cases h2 : tab.get e with
    | none => rw [h2] at he; cases he
    | some et =>
      rw [h1] at ht; rw [h2] at he
      simp only [Option.map_some, Option.some.injEq, Prod.mk.injEq] at ht he
      obtain ⟨e1, e2, e3⟩ := he
      have hb : (2 * n + 768) * bt ≤ 200768 * 100 := Nat.mul_le_mul (by omega) hbt
      simp only [ht, h2, e1, hs]
      rw [if_neg (by omega), if_pos ⟨by omega, by rw [e2]; omega, e3⟩]

include hbt in
theorem app_soft {h : H} {s len b n : Nat} {c : Cap} {cs news : List IV} {e' : TypeId} {wr : Bool} (hs : h.get s = some (.cells cs e, true)) (hcs : cs.length = len * sz) (hsz : 0 < sz) (hlen : len ≤ 100000)
    (hg : h.get b = some (.cells news e', wr)) (hl : news.length = n * sz) (hone : news.all IV.one = true) (hn : n ≤ 100000) :
    builtinI tab .append [t, t] [.slice s 0 len (.soft 0), .slice b 0 n c] h = some (.slice h.next 0 (len + n) (.soft 0), (h.kill s).new (.cells (cs ++ news) e)) := by
  have hsrc := src_ok ht (c := c) hg hl hone
  show appendI tab t t (.slice s 0 len (.soft 0)) (.slice b 0 n c) h = _
  unfold appendI
  cases h1 : tab.get t with
  | none => rw [h1] at ht; cases ht
  | some ty =>
    cases h2 : tab.get e with
    | none => rw [h2] at he; cases he
    | some et =>
      rw [h1] at ht; rw [h2] at he
      simp only [Option.map_some, Option.some.injEq, Prod.mk.injEq] at ht he
      obtain ⟨e1, e2, e3⟩ := he
      have hb : (2 * (len + n) + 768) * bt ≤ 400768 * 100 := Nat.mul_le_mul (by omega) hbt
      simp only [ht, h2, e1, hsrc, hs]
      rw [if_pos ⟨trivial, hsz, hcs, by omega, by rw [e2]; omega, e3⟩]
end

theorem t3i : (tab.get 3).map (fun y => (y.size, y.bytes, y.zv.cells.length)) = some (1, 8, 1) := by kernel_rfl
theorem t26i : (tab.get 26).map (fun y => (y.size, y.bytes, y.zv.cells.length)) = some (2, 16, 2) := by kernel_rfl
theorem t39i : (tab.get 39).map (fun y => (y.size, y.bytes, y.zv.cells.length)) = some (2, 16, 2) := by kernel_rfl

theorem dom_new {h : H} {o : Bx} (hd : ∀ i y, h.get i = some y → i < h.next) : ∀ i y, (h.new o).get i = some y → i < (h.new o).next := by
  intro i y hi
  rw [H.get_new] at hi
  rw [H.next_new]
  by_cases e : h.next = i
  · omega
  · rw [if_neg e] at hi
    have := hd i y hi
    omega
theorem dom_put {h : H} {b : Nat} {o : Bx} {x : Bx × Bool} (hb : h.get b = some x) (hd : ∀ i y, h.get i = some y → i < h.next) : ∀ i y, (h.put b o).get i = some y → i < (h.put b o).next := by
  intro i y hi
  rw [H.get_put] at hi
  rw [H.next_put]
  by_cases e : b = i
  · subst e; exact hd _ _ hb
  · rw [if_neg e] at hi
    exact hd i y hi
theorem dom_kill {h : H} {b : Nat} (hd : ∀ i y, h.get i = some y → i < h.next) : ∀ i y, (h.kill b).get i = some y → i < (h.kill b).next := by
  intro i y hi
  rw [H.get_kill] at hi
  rw [H.next_kill]
  by_cases e : b = i
  · rw [if_pos e] at hi; cases hi
  · rw [if_neg e] at hi
    exact hd i y hi
theorem dom_boxH {bs : List Bx} : ∀ i y, (boxH bs).get i = some y → i < (boxH bs).next := by
  intro i y hi
  rw [boxH_get] at hi
  cases hb : bs[i]? with
  | none => rw [hb] at hi; cases hi
  | some z => exact (List.getElem?_eq_some_iff.1 hb).1
end Go.Proofs.Ytjhgomacanffkaa
namespace Go.Proofs.Ytjhgomacanffkaa
open Go Sx Go.RowKit

noncomputable def l15 : List Code := flat (bodyC Try.prog 15)
noncomputable def as15 : Code := rangeA l15 2
noncomputable def bd15 : Code := rangeB l15 2
theorem l15_eq : flat (bodyC Try.prog 15) = l15.take 2 ++ (.block 0 (.rangeFunc (.tmp 5) #[6, 7] as15 bd15) :: l15.drop 3) := by kernel_rfl

abbrev hallV (b off n : Nat) (c : Cap) : IV := .slice b off n c
def fv15 : IV := .func (.func 35) [] [.ptr 3 0]
def F15 (g : Nat → IV) : Nat → IV := ov [2, 5] [.ptr 2 0, fv15] g
noncomputable def rec15 (st : LoopState) (g : Nat → IV) : Bx := .loop st none 13 (canon 13 (F15 g) []).tm [6, 7] as15 bd15 4
def h15 (x : Bx) (hv : IV) : H := (((boxH [x]).new (.cells [hv] 24)).new (.cells [.nilslice] 27)).new (.cells [hv] 24)
noncomputable def k15 (x : Bx) (hv : IV) (g : Nat → IV) : H := ((h15 x hv).new (.defs false)).new (rec15 .ready g)

theorem pre15 (x : Bx) (hv : IV) : psR Try.prog tab (fun _ _ => none) 50 15 none 13 (l15.take 2) (canon 13 (fun j => [IV.agg [hv]].getD j undefI) []) (boxH [x]) [2, 5] =
  some (.normal, [.ptr 2 0, fv15], h15 x hv, [], []) := by kernel_rfl
theorem fv15_ev (g : Nat → IV) : evo (canon 13 (F15 g) []).tm (.tmp 5) = some fv15 := by kernel_rfl
theorem enters35 : Go.Proofs.Enters Try.prog 35 := Go.Proofs.enters_of Try.func35 (by kernel_rfl) rfl
theorem enters15 : Go.Proofs.Enters Try.prog 15 := Go.Proofs.enters_of Try.func15 (by kernel_rfl) rfl
theorem as15_run (h : H) (g : Nat → IV) (s k : Int) : pxR Try.prog tab (fun _ _ => none) 50 15 (some 5) 13 as15 (canon 13 (ov [6, 7] [.int .i64 s, .int .i64 k] (F15 g)) []) h [2, 3] =
  some (.normal, [.ptr 2 0, .int .i64 s], h, [], []) := by kernel_rfl
def oc15 (old v : IV) (h2 : H) : Nat → Nat → Option It := fun f t => match f, t with
  | 15, 8 => some (.l old (.cells [old] 27, true))
  | 15, 11 => some (.g v h2)
  | 15, 12 => some (.l v (.cells [v] 27, true))
  | 15, 1002 => some (.t [old] 27 [v])
  | _, _ => none
theorem bd15_run (h h2 : H) (g : Nat → IV) (s : Int) (old v : IV) : pxR Try.prog tab (oc15 old v h2) 50 15 (some 5) 13 bd15 (canon 13 (ov [2, 3] [.ptr 2 0, .int .i64 s] g) []) h [] =
  some (.normal, [], h2.put 2 (.cells [v] 27), [], [h.get 2 = some (.cells [old] 27, true), ldX (.cells [old] 27, true) false 1 0 = some old,
    builtinI tab .append [27, 27] [old, .slice h.next 0 1 (.hard 1)] (h.new (.cells [.int .i64 s] 3)) = some (v, h2), h2.get 2 = some (.cells [old] 27, true), stC 1 [old] 0 v = some [v]]) := by kernel_rfl
theorem post15 (h : H) (g : Nat → IV) (v : IV) : psR Try.prog tab (oc15 v v h) 50 15 none 13 (l15.drop 3) (canon 13 (F15 g) [4]) h [2] =
  some (.ret, [.ptr 2 0], h.put 2 (.cells [v] 27), [4], [h.get 2 = some (.cells [v] 27, true), ldX (.cells [v] 27, true) false 1 0 = some v, h.get 2 = some (.cells [v] 27, true), stC 1 [v] 0 v = some [v]]) := by kernel_rfl
end Go.Proofs.Ytjhgomacanffkaa
namespace Go.Proofs.Ytjhgomacanffkaa
open Go Sx Go.RowKit

/-- A list that was grown, in its block. -/
def slV (s n : Nat) : IV := if n = 0 then .nilslice else .slice s 0 n (.soft 0)
theorem slV_zero (s : Nat) : slV s 0 = .nilslice := rfl
theorem slV_succ (s n : Nat) : slV s (n + 1) = .slice s 0 (n + 1) (.soft 0) := rfl
theorem slV_pos {s n : Nat} (h : 0 < n) : slV s n = .slice s 0 n (.soft 0) := by unfold slV; rw [if_neg (by omega)]
theorem st_slV (old : IV) (s n : Nat) : stC 1 [old] 0 (slV s n) = some [slV s n] := by
  cases n <;> rfl

/-- One more in a list that is grown. -/
theorem app_one {t e sz bt : Nat} (ht : (tab.get t).map Ty.d = some (.slice e)) (he : (tab.get e).map (fun y => (y.size, y.bytes, y.zv.cells.length)) = some (sz, bt, sz)) (hbt : bt ≤ 100) (hsz : 0 < sz)
    {h : H} {s len b : Nat} {c : Cap} {cs news : List IV} {e' : TypeId} {wr : Bool} (hlen : len ≤ 100000) (hcs : cs.length = len * sz) (hs : len = 0 ∨ h.get s = some (.cells cs e, true))
    (hg : h.get b = some (.cells news e', wr)) (hl : news.length = sz) (hone : news.all IV.one = true) :
    ∃ h2, builtinI tab .append [t, t] [slV s len, .slice b 0 1 c] h = some (slV h.next (len + 1), h2) ∧ h2.next = h.next + 1 ∧ h2.get h.next = some (.cells (cs ++ news) e, true) ∧
      ∀ i, i ≠ h.next → (len = 0 ∨ i ≠ s) → h2.get i = h.get i := by
  cases len with
  | zero =>
    have hc0 : cs = [] := List.eq_nil_of_length_eq_zero (by omega)
    subst hc0
    exact ⟨_, app_nil ht he hbt (n := 1) hg (by omega) hone (by omega) (by omega), rfl, by rw [H.get_new, if_pos rfl]; rfl, fun i hi _ => by rw [H.get_new, if_neg (fun e => hi e.symm)]⟩
  | succ k =>
    rcases hs with hs | hs
    · omega
    · refine ⟨_, app_soft ht he hbt (len := k + 1) (n := 1) hs hcs hsz hlen hg (by omega) hone (by omega), rfl, by rw [H.get_new, H.next_kill, if_pos rfl], fun i hi h2 => ?_⟩
      rcases h2 with h2 | h2
      · omega
      · rw [H.get_new, H.next_kill, if_neg (fun e => hi e.symm), H.get_kill, if_neg (fun e => h2 e.symm)]

structure J15 (x : Bx) (hv : IV) (g : Nat → IV) (d : List (Nat × Int)) (own : List Nat) (h : H) (s : Nat) : Prop where
  own : own = [2, 5, s]
  n0 : s ≠ 0
  n3 : s ≠ 3
  n4 : s ≠ 4
  lt : s < h.next
  dom : ∀ i y, h.get i = some y → i < h.next
  g0 : h.get 0 = some (x, false)
  g3 : h.get 3 = some (.cells [hv] 24, true)
  g4 : h.get 4 = some (.defs false, true)
  g5 : h.get 5 = some (rec15 .ready g, true)
  g2 : h.get 2 = some (.cells [slV s d.length] 27, true)
  gs : d.length = 0 ∨ (s ≠ 2 ∧ s ≠ 5 ∧ h.get s = some (.cells (ints (d.map fun a => (a.1 : Int))) 3, true))

theorem con15 (x : Bx) (hv : IV) (g : Nat → IV) : Con (k15 x hv g) 3 0 hv true (x, false) (fun d own h => ∃ s, J15 x hv g d own h s) := by
  refine ⟨?_, ?_, ?_, ?_, ?_⟩
  · rintro d own h ⟨s, j⟩
    have := j.dom _ _ j.g5
    have := j.lt
    have := j.n0
    have := j.n3
    refine ⟨?_, ?_, ?_⟩
    · rw [j.own]
      intro i hi
      simp only [List.mem_cons, List.not_mem_nil, or_false] at hi
      omega
    · rw [j.own]; simp; omega
    · rw [j.own]; simp; omega
  · rintro d own h ⟨s, j⟩; exact j.g3
  · rintro d own h ⟨s, j⟩; exact j.g0
  · rintro d own h ⟨s, j⟩; exact j.dom
  · rintro d own h h' ⟨s, j⟩ hg hd
    exact ⟨s, j.own, j.n0, j.n3, j.n4, Nat.lt_of_lt_of_le j.lt hg.1, hd, hg.2 _ _ j.g0, hg.2 _ _ j.g3, hg.2 _ _ j.g4, hg.2 _ _ j.g5, hg.2 _ _ j.g2, j.gs.imp id fun ⟨a, b, c⟩ => ⟨a, b, hg.2 _ _ c⟩⟩

theorem cons15 (x : Bx) (hv : IV) (g : Nat → IV) {d : List (Nat × Int)} {own : List Nat} {h : H} (a : Nat × Int) (hd : d.length < 1000) (hj : ∃ s, J15 x hv g d own h s) :
    ∃ h', ClEq Try.prog (.func (.yield 5) [] []) [.int .i64 (a.1 : Nat), .int .i64 a.2] h (.bool true) h' ∧ ∃ own', (∃ s, J15 x hv g (d ++ [a]) own' h' s) ∧ Kept own own' h h' := by
  obtain ⟨s, j⟩ := hj
  have h5 := j.dom _ _ j.g5
  have hlt := j.lt
  have n0 := j.n0
  have n3 := j.n3
  have n4 := j.n4
  let hb := h.put 5 (rec15 .busy g)
  let hn := hb.new (.cells [.int .i64 (a.1 : Nat)] 3)
  have hnn : hn.next = h.next + 1 := rfl
  have gn : ∀ i, i ≠ 5 → i ≠ h.next → hn.get i = h.get i := fun i e1 e2 => by
    show ((h.put 5 _).new _).get i = _
    rw [H.get_new, H.next_put, if_neg (fun e => e2 e.symm), H.get_put, if_neg (fun e => e1 e.symm)]
  have gn5 : hn.get 5 = some (rec15 .busy g, true) := by
    show ((h.put 5 _).new _).get 5 = _
    rw [H.get_new, H.next_put, if_neg (by omega), H.get_put, if_pos rfl]
  have gnn : hn.get h.next = some (.cells [.int .i64 (a.1 : Nat)] 3, true) := by
    show ((h.put 5 _).new _).get h.next = _
    rw [H.get_new, H.next_put, if_pos rfl]
  have hcs : (ints (d.map fun a => (a.1 : Int))).length = d.length * 1 := by rw [ints_length, List.length_map, Nat.mul_one]
  have hs : d.length = 0 ∨ hn.get s = some (.cells (ints (d.map fun a => (a.1 : Int))) 3, true) := by
    rcases j.gs with e | ⟨_, e2, e⟩
    · exact .inl e
    · exact .inr (by rw [gn s e2 (by omega)]; exact e)
  obtain ⟨h2, ha, hnx, hnew, hold⟩ := app_one t27d t3i (by decide) (by decide) (by omega) hcs hs gnn (c := .hard 1) rfl rfl
  rw [hnn] at ha hnx hnew hold
  have hold' : ∀ i, i ≠ 5 → i < h.next → (d.length = 0 ∨ i ≠ s) → h2.get i = h.get i := fun i e1 e2 e3 => by rw [hold i (by omega) e3, gn i e1 (by omega)]
  have s5 : d.length = 0 ∨ 5 ≠ s := j.gs.imp id fun ⟨_, e, _⟩ => fun e' => e e'.symm
  have s2 : d.length = 0 ∨ 2 ≠ s := j.gs.imp id fun ⟨e, _, _⟩ => fun e' => e e'.symm
  have h25 : h2.get 5 = some (rec15 .busy g, true) := by rw [hold 5 (by omega) s5, gn5]
  have h22 : h2.get 2 = some (.cells [slV s d.length] 27, true) := by rw [hold' 2 (by decide) (by omega) s2]; exact j.g2
  let v := slV (h.next + 1) (d.length + 1)
  let h' := (h2.put 2 (.cells [v] 27)).put 5 (rec15 .ready g)
  have d2 : ∀ i y, h2.get i = some y → i < h2.next := by
    intro i y hi
    rw [hnx]
    by_cases e : i = h.next + 1
    · omega
    · by_cases e5 : i = 5
      · omega
      · by_cases en : i = h.next
        · omega
        · rcases Nat.eq_zero_or_pos d.length with hz | hz
          · rw [hold i e (.inl hz), gn i e5 en] at hi
            have := j.dom _ _ hi
            omega
          · by_cases es : i = s
            · omega
            · rw [hold i e (.inr es), gn i e5 en] at hi
              have := j.dom _ _ hi
              omega
  refine ⟨h', ?_, [2, 5, h.next + 1], ⟨h.next + 1, ⟨rfl, by omega, by omega, by omega, ?_, ?_, ?_, ?_, ?_, ?_, ?_, .inr ⟨by omega, by omega, ?_⟩⟩⟩, ?_, ?_⟩
  · refine Cl.yield j.g5 rfl (by decide) ?_
    refine Ev.px tab_ok mixed (vF_is [6, 7] _ _ rfl (fun k hk => by rw [canon_tmp, if_pos hk]) (by decide)) (as15_run h g _ _) trivial fun fr1 g1 hf1 => ⟨rfl, _, _, _, _, _, _, _, j.g5, ?_⟩
    have hb2 : hb.get 2 = some (.cells [slV s d.length] 27, true) := by
      show (h.put 5 _).get 2 = _
      rw [H.get_put, if_neg (by decide)]; exact j.g2
    refine Ev.px tab_ok mixed hf1 (bd15_run hb h2 g1 _ (slV s d.length) v) ⟨hb2, rfl, ha, h22, st_slV _ _ _, trivial⟩ fun fr2 g2 hf2 => ?_
    exact ⟨_, _, _, _, _, _, _, _, by rw [H.get_put, if_neg (by decide)]; exact h25, rfl, rfl⟩
  · show h.next + 1 < h2.next; omega
  · refine dom_put (x := (rec15 .busy g, true)) (by rw [H.get_put, if_neg (by decide)]; exact h25) (dom_put h22 d2)
  · rw [H.get_put, if_neg (by decide), H.get_put, if_neg (by decide), hold' 0 (by decide) (by omega) (.inr (by omega))]; exact j.g0
  · rw [H.get_put, if_neg (by decide), H.get_put, if_neg (by decide), hold' 3 (by decide) (by omega) (.inr (by omega))]; exact j.g3
  · rw [H.get_put, if_neg (by decide), H.get_put, if_neg (by decide), hold' 4 (by decide) (by omega) (.inr (by omega))]; exact j.g4
  · rw [H.get_put, if_pos rfl]
  · rw [H.get_put, if_neg (by decide), H.get_put, if_pos rfl, List.length_append, List.length_singleton]
  · rw [H.get_put, if_neg (by omega), H.get_put, if_neg (by omega), hnew]
    simp [ints]
  · show h.next ≤ h2.next; omega
  · intro i y hi hm
    rw [j.own] at hm
    simp only [List.mem_cons, List.not_mem_nil, or_false, not_or] at hm
    have := j.dom _ _ hi
    refine ⟨?_, by simp; omega⟩
    rw [H.get_put, if_neg (by omega), H.get_put, if_neg (by omega), hold' i hm.2.1 (by omega) (.inr hm.2.2)]
    exact hi
end Go.Proofs.Ytjhgomacanffkaa
namespace Go.Proofs.Ytjhgomacanffkaa
open Go Sx Go.RowKit

def newL (h : H) (n : Nat) (cs : List IV) (e : TypeId) : H := if n = 0 then h else h.new (.cells cs e)
theorem newL_zero (h : H) (cs : List IV) (e : TypeId) : newL h 0 cs e = h := rfl
theorem newL_pos {h : H} {n : Nat} (hn : 0 < n) (cs : List IV) (e : TypeId) : newL h n cs e = h.new (.cells cs e) := by unfold newL; rw [if_neg (by omega)]

/-- A call that makes one list, at any heap. -/
theorem Sp.list {P : Program} {f : FuncId} {args : List IV} {bs : List Bx} {k : Nat} {cs : List IV} {e : TypeId} (hfl : bs.all Bx.flat = true) (ha : underLB bs.length args = true) (hfc : flatL cs = true)
    (hs : Sp P f args (boxH bs) fun v' h' => ∃ s, v' = slV s k ∧ (k = 0 ∨ (h'.get s = some (.cells cs e, true) ∧ bs.length ≤ s)) ∧ ∀ i y, (boxH bs).get i = some y → h'.get i = some y)
    {H0 : H} (g : Nat → Nat) (hblk : ∀ i o, bs[i]? = some o → ∃ wr, H0.get (g i) = some (o, wr))
    (hinj : ∀ i j, i < bs.length → j < bs.length → g i = g j → i = j) : SpEq P f (renL g args) H0 (slV H0.next k) (newL H0 k cs e) := by
  cases k with
  | zero =>
    refine Sp.bigF hfl ha (v := .nilslice) rfl (h' := boxH bs) (Sp.forget rfl (hs.mono ?_)) g hblk hinj
    rintro v h' ⟨s, rfl, _, h2⟩
    exact ⟨rfl, h2⟩
  | succ k =>
    refine Sp.bigN (v := .slice 0 0 (k + 1) (.soft 0)) hfl ha (by simp [IV.under]) hfc (Sp.keepOut hfc (by simp [IV.under]) (hs.mono ?_)) g hblk hinj
    rintro v h' ⟨s, rfl, h1, h2⟩
    rcases h1 with h1 | h1
    · omega
    · exact ⟨s, rfl, h1.1, h1.2, h2⟩

structure HallX (x : Bx) (off n : Nat) (c : Cap) (rs : List (Int × Int)) : Prop where
  fl : x.flat = true
  len : rs.length = min n 8
  rows : ∀ wr i r, rs[i]? = some r → ldX (x, wr) true 2 (off + i * 2) = some (.agg (row r))
  fc : ∀ wr i r, rs[i]? = some r → ldX (x, wr) false 1 (off + i * 2) = some (.int .i64 r.1)
  fm : ∀ wr i r, rs[i]? = some r → ldX (x, wr) false 1 (off + i * 2 + 1) = some (.int .u8 r.2)
  m : ∀ r ∈ rs, 0 ≤ r.2 ∧ r.2 < 256
  cut : ∃ c', ∀ b h wr, h.get b = some (x, wr) → sliceI tab 22 (.slice b off n c) none (some (.int .i64 (rs.length : Nat))) none h = some (.slice b off rs.length c')

theorem rowS_length (i : Nat) (r : Int × Int) : ∀ k p, (rowS i r k p).length ≤ k
  | 0, _ => Nat.le_refl _
  | k + 1, p => by
    simp only [rowS, List.length_append]
    have := rowS_length i r k (p + 1)
    split <;> simp <;> omega
theorem allS_length : ∀ (rs : List (Int × Int)) (i : Nat), (allS rs i).length ≤ 8 * rs.length
  | [], _ => by simp [allS]
  | r :: rs, i => by
    simp only [allS, List.length_append, List.length_cons]
    have := rowS_length i r 8 0
    have := allS_length rs (i + 1)
    omega

theorem seats_sp {x : Bx} {off n : Nat} {c : Cap} {rs : List (Int × Int)} (hx : HallX x off n c rs) :
    Sp Try.prog 15 [.agg [.slice 0 off n c]] (boxH [x]) fun v' h' => ∃ s, v' = slV s (allS rs 0).length ∧ ((allS rs 0).length = 0 ∨ (h'.get s = some (.cells (ints ((allS rs 0).map fun a => (a.1 : Int))) 3, true) ∧ [x].length ≤ s)) ∧
      ∀ i y, (boxH [x]).get i = some y → h'.get i = some y := by
  obtain ⟨c', hcut⟩ := hx.cut
  have h8 := hx.len
  have hSl := allS_length rs 0
  refine Sp.of_ev tab_ok Try.func15 (c := bodyC Try.prog 15) (by kernel_rfl) (Nat.le_of_ble_eq_true rfl) ?_
  show Ev Try.prog none 13 (bodyC Try.prog 15) (BodyQ tab [.cell 2 27] _) _ _
  refine Ev.of_flat l15_eq ?_
  refine EvS.px tab_ok mixed (FrIs.start 13 _) (by simp) (pre15 x (.slice 0 off n c)) trivial fun fr g hf => ?_
  refine Ev.block (Ev.canon hf ?_)
  refine Ev.rangeFunc_none (fv15_ev g) rfl enters35 ?_
  refine Cl.of_sp enters35 ?_
  have hd0 : ∀ i y, (k15 x (.slice 0 off n c) g).get i = some y → i < (k15 x (.slice 0 off n c) g).next := dom_new (dom_new (dom_new (dom_new (dom_new dom_boxH))))
  have j0 : J15 x (.slice 0 off n c) g [] [2, 5, 5] (k15 x (.slice 0 off n c) g) 5 := ⟨rfl, by decide, by decide, by decide, Nat.le_of_ble_eq_true rfl, hd0, by kernel_rfl, by kernel_rfl, by kernel_rfl, by kernel_rfl, by kernel_rfl, .inl rfl⟩
  refine Sp.mono (sp35 (h0 := k15 x (.slice 0 off n c) g) _ (fun _ => False) (con15 x (.slice 0 off n c) g) (hx.rows false) hx.len hx.m (fun h hh => hcut 0 h false hh) ?_ ⟨5, j0⟩) ?_
  · intro d s t own h hd hj
    have hdl : d.length < 1000 := by
      have := congrArg List.length hd
      simp at this
      omega
    obtain ⟨h', h1, h2⟩ := cons15 x _ g s hdl hj
    exact ⟨true, h', h1, .inl ⟨rfl, h2⟩⟩
  rintro v h3 ⟨rfl, hh⟩
  rcases hh with ⟨own, s, j⟩ | hh
  case inr => exact hh.elim
  refine ⟨_, _, _, _, _, _, _, _, j.g5, by simp, ?_⟩
  have k2 : (h3.kill 5).get 2 = some (.cells [slV s (allS rs 0).length] 27, true) := by rw [H.get_kill, if_neg (by decide)]; exact j.g2
  refine EvS.pxEnd (F := F15 g) (ms := [4]) tab_ok mixed ⟨rfl, fun j hj => by rw [canon_tmp, if_pos hj]; rfl⟩ (List.cons_ne_nil _ _) (post15 (h3.kill 5) g (slV s (allS rs 0).length)) ⟨k2, rfl, k2, st_slV _ _ _, trivial⟩ fun fr2 g2 hf2 => ?_
  have e2 : fr2.tm.tmp 2 = .ptr 2 0 := hf2.2 2 (by decide)
  have n4 := j.n4
  refine ⟨.inr rfl, ((h3.kill 5).put 2 (.cells [slV s (allS rs 0).length] 27)).kill 4, [slV s (allS rs 0).length], ?_, ?_, s, rfl, ?_, ?_⟩
  · have e4 : ((h3.kill 5).put 2 (.cells [slV s (allS rs 0).length] 27)).get 4 = some (.defs false, true) := by
      rw [H.get_put, if_neg (by decide), H.get_kill, if_neg (by decide)]; exact j.g4
    rw [hf2.1]
    simp only [takeMarks, e4]
  · have e2' : (((h3.kill 5).put 2 (.cells [slV s (allS rs 0).length] 27)).kill 4).get 2 = some (.cells [slV s (allS rs 0).length] 27, true) := by
      rw [H.get_kill, if_neg (by decide), H.get_put, if_pos rfl]
    have h1 : (tab.get 27).map (fun y => (y.size, aggD y.d)) = some (1, false) := by kernel_rfl
    simp only [resI, e2]
    cases ht : tab.get 27 with
    | none => rw [ht] at h1; cases h1
    | some ty =>
      rw [ht] at h1
      simp only [Option.map_some, Option.some.injEq, Prod.mk.injEq] at h1
      simp only [h1.1, h1.2, loadI, e2']
      rfl
  · rcases j.gs with e | ⟨e1, e2, e3⟩
    · exact .inl e
    · refine .inr ⟨?_, ?_⟩
      · rw [H.get_kill, if_neg (fun e => n4 e.symm), H.get_put, if_neg (fun e => e1 e.symm), H.get_kill, if_neg (fun e => e2 e.symm)]; exact e3
      · have := j.n0; simp; omega
  · intro i y hi
    rw [boxH_get] at hi
    have hi0 : i = 0 := by
      cases i with
      | zero => rfl
      | succ i => simp at hi
    subst hi0
    rw [H.get_kill, if_neg (by decide), H.get_put, if_neg (by decide), H.get_kill, if_neg (by decide), j.g0]
    simpa using hi

theorem seats_cl {x : Bx} {off n : Nat} {c : Cap} {rs : List (Int × Int)} (hx : HallX x off n c rs) {h : H} {b : Nat} {wr : Bool} (hb : h.get b = some (x, wr)) :
    ClEq Try.prog (.func (.func 15) [] []) [.agg [.slice b off n c]] h (slV h.next (allS rs 0).length) (newL h (allS rs 0).length (ints ((allS rs 0).map fun a => (a.1 : Int))) 3) := by
  refine Cl.of_sp (first := []) (cap := []) enters15 ?_
  have := Sp.list (bs := [x]) (by simp [hx.fl]) (by simp [underLB, IV.underB]) (flat_ints _) (seats_sp hx) (H0 := h) (fun _ => b) (fun i o ho => by
    cases i with
    | zero => simp at ho; subst ho; exact ⟨wr, hb⟩
    | succ i => simp at ho) (fun i j hi hj _ => by simp at hi hj; omega)
  exact this
end Go.Proofs.Ytjhgomacanffkaa
