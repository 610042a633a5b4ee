/- What the program's own sum answers, of up to 2048 bytes. -/
import Derived.Test.YtoimbaocmeolgaaDoorCSum
import Derived.Test.YtoimbaocmeolgaaDoorSxMemo
namespace Go.Proofs.YtoimbaocmeolgaaDoor
open Go Sx Go.RowKit

noncomputable def l30 : List Code := flat (bodyC Tryd.prog 30)
noncomputable def as30 : Code := rangeA l30 3
noncomputable def bd30 : Code := rangeB l30 3
theorem l30_eq : flat (bodyC Tryd.prog 30) = l30.take 3 ++ (.block 0 (.rangeFunc (.tmp 13) #[14] as30 bd30) :: l30.drop 4) := by kernel_rfl
noncomputable def in30 : Code := match bd30 with | Code.block _ c => c | _ => Code.skip
theorem bd30_eq : bd30 = .block 1 in30 := by kernel_rfl
noncomputable def m30 : List Code := flat in30
theorem m30_eq : flat in30 = m30.take 1 ++ (.block 2 (.loop (loopAt m30 1)) :: m30.drop 2) := by kernel_rfl

def E0 : H := ⟨.leaf, 0⟩
def fv30 : IV := .func (.func 55) [] [.ptr 2 0]
def F30 (g : Nat → IV) : Nat → IV := ov [5, 13] [.ptr 1 0, fv30] g
def hal (a b : Nat) : Bx := .cells [.int .u32 a, .int .u32 b] 79
def h3 (s : List UInt8) : H := ((E0.new (hal 1 0)).new (hal 1 0)).new (.cells [.str s] 9)
noncomputable def rec30 (st : LoopState) (g : Nat → IV) : Bx := .loop st none 41 (canon 41 (F30 g) []).tm [14] as30 bd30 3
noncomputable def h5 (s : List UInt8) (g : Nat → IV) : H := ((h3 s).new (.defs false)).new (rec30 .ready g)
noncomputable def h5b (s : List UInt8) (g : Nat → IV) : H := (h5 s g).put 4 (rec30 .busy g)
def sb (s : List UInt8) : List IV := s.map fun b => .int .u8 b.toNat
noncomputable def hI (s : List UInt8) (g : Nat → IV) (i : Nat) : H := ((h5b s g).new (.cells (sb s) 5)).put 1 (hal (lo s i) (hi s i))
noncomputable def hE (s : List UInt8) (g : Nat → IV) (a b a' b' : Nat) : H := ((((h5b s g).new (.cells (sb s) 5)).new (hal a b)).new (hal a' b')).put 1 (hal a' b')
noncomputable def hF (s : List UInt8) (g : Nat → IV) (a b a' b' : Nat) : H := (hE s g a b a' b').put 4 (rec30 .ready g)

theorem pre30 (s : List UInt8) : psR Tryd.prog tab (fun _ _ => none) 50 30 none 41 (l30.take 3) (canon 41 (fun j => [IV.int .u32 1, .str s].getD j undefI) []) E0 [5, 13] =
  some (.normal, [.ptr 1 0, fv30], h3 s, [], []) := by kernel_rfl
theorem fv30_ev (g : Nat → IV) : evo (canon 41 (F30 g) []).tm (.tmp 13) = some fv30 := by kernel_rfl
theorem enters55 : Go.Proofs.Enters Tryd.prog 55 := Go.Proofs.enters_of Tryd.func55 (by kernel_rfl) rfl
theorem enters30 : Go.Proofs.Enters Tryd.prog 30 := Go.Proofs.enters_of Tryd.func30 (by kernel_rfl) rfl
theorem enters15 : Go.Proofs.Enters Tryd.prog 15 := Go.Proofs.enters_of Tryd.func15 (by kernel_rfl) rfl
theorem get4 (s : List UInt8) (g : Nat → IV) : (h5 s g).get 4 = some (rec30 .ready g, true) := by kernel_rfl
theorem get4e (s : List UInt8) (g : Nat → IV) (a b a' b' : Nat) : (hE s g a b a' b').get 4 = some (rec30 .busy g, true) := by kernel_rfl
theorem get4f (s : List UInt8) (g : Nat → IV) (a b a' b' : Nat) : (hF s g a b a' b').get 4 = some (rec30 .ready g, true) := by kernel_rfl

/-! ### A round -/
def vF30 (s : List UInt8) (g : Nat → IV) : Nat → IV := ov [14] [.str s] (F30 g)
theorem vF30_is (s : List UInt8) (g : Nat → IV) : FrIs 41 ⟨setParams (canon 41 (F30 g) []).tm [14] [.str s], []⟩ (vF30 s g) [] := by
  refine ⟨rfl, fun j hj => ?_⟩
  show ((canon 41 (F30 g) []).tm.set 14 (some (.str s))).tmp j = _
  rw [tmp_set]
  unfold vF30
  simp only [ov]
  by_cases h9 : j = 14
  · subst h9; rfl
  · have e9 : Nat.beq j 14 = false := by rw [beqE]; exact decide_eq_false h9
    rw [if_neg (fun e => h9 e.symm), e9, canon_tmp, if_pos hj]
    rfl
theorem as30_run (s : List UInt8) (g : Nat → IV) : pxR Tryd.prog tab (fun _ _ => none) 50 30 (some 4) 41 as30 (canon 41 (vF30 s g) []) (h5 s g) [5, 6] =
  some (.normal, [.ptr 1 0, .str s], h5 s g, [], []) := by kernel_rfl
def lv30 (s : List UInt8) (i : Nat) : List IV := [.ptr 1 0, .slice 5 0 s.length (.soft 0), .int .i64 (s.length : Nat), .int .i64 (i : Nat)]
theorem in30_pre (s : List UInt8) (g g2 : Nat → IV) : psR Tryd.prog tab (fun _ _ => none) 50 30 (some 4) 41 (m30.take 1) (canon 41 (ov [5, 6] [.ptr 1 0, .str s] g2) []) (h5b s g) [5, 16, 17, 18] =
  some (.normal, lv30 s 0, hI s g 0, [], []) := by kernel_rfl
def oc30 (s : List UInt8) (i : Nat) (lt : Bool) : Nat → Nat → Option It := fun f t => match f, t with
  | 30, 19 => some (.w (.bool lt))
  | 30, 20 => some (.o (.ptr 5 i))
  | 30, 21 => some (.o (.int .u8 (s.getD i 0).toNat))
  | 30, 25 => some (.w (.int .u32 (s.getD i 0).toNat))
  | 30, 26 => some (.w (.int .u32 (lo s (i + 1) : Nat)))
  | 30, 32 => some (.w (.int .u32 (hi s (i + 1) : Nat)))
  | 30, 34 => some (.w (.int .i64 ((i + 1 : Nat) : Int)))
  | _, _ => none
theorem in30_go (s : List UInt8) (g g2 : Nat → IV) (i : Nat) : pxR Tryd.prog tab (oc30 s i true) 50 30 (some 4) 41 (loopAt m30 1) (canon 41 (ov [5, 16, 17, 18] (lv30 s i) g2) []) (hI s g i) [5, 16, 17, 18] =
  some (.normal, lv30 s (i + 1), hI s g (i + 1), [], [IV.bool (decide ((i : Int) < (s.length : Nat))) = .bool true,
    indexAddrI tab 27 (.slice 5 0 s.length (.soft 0)) (.int .i64 i) = some (.ptr 5 i),
    ldC false 1 (sb s) i = some (.int .u8 (s.getD i 0).toNat),
    IV.int .u32 (IntKind.wrap .u32 ((s.getD i 0).toNat : Int)) = .int .u32 (s.getD i 0).toNat,
    IV.int .u32 (IntKind.wrap .u32 ((lo s i : Int) + ((s.getD i 0).toNat : Int))) = .int .u32 (lo s (i + 1) : Nat),
    IV.int .u32 (IntKind.wrap .u32 ((hi s i : Int) + (lo s (i + 1) : Int))) = .int .u32 (hi s (i + 1) : Nat),
    IV.int .i64 (IntKind.wrap .i64 ((i : Int) + 1)) = .int .i64 ((i + 1 : Nat) : Int)]) := by kernel_rfl
theorem in30_end (s : List UInt8) (g g2 : Nat → IV) (i : Nat) : pxR Tryd.prog tab (oc30 s i false) 50 30 (some 4) 41 (loopAt m30 1) (canon 41 (ov [5, 16, 17, 18] (lv30 s i) g2) []) (hI s g i) [5] =
  some (.exit 2, [.ptr 1 0], hI s g i, [], [IV.bool (decide ((i : Int) < (s.length : Nat))) = .bool false]) := by kernel_rfl
def oc41 (a b : Nat) : Nat → Nat → Option It := fun f t => match f, t with
  | 41, 5 => some (.w (.int .u32 (a : Nat)))
  | 41, 8 => some (.w (.int .u32 (b : Nat)))
  | _, _ => none
theorem in30_post (s : List UInt8) (g g2 : Nat → IV) (i a b : Nat) : psR Tryd.prog tab (oc41 a b) 50 30 (some 4) 41 (m30.drop 2) (canon 41 (ov [5] [.ptr 1 0] g2) []) (hI s g i) [] =
  some (.normal, [], hE s g (lo s i) (hi s i) a b, [], [IV.int .u32 ((lo s i : Int).tmod 65521) = .int .u32 a, IV.int .u32 ((hi s i : Int).tmod 65521) = .int .u32 b]) := by kernel_rfl

theorem sb_ld {s : List UInt8} {i : Nat} (h : i < s.length) : ldC false 1 (sb s) i = some (.int .u8 (s.getD i 0).toNat) := by
  simp only [ldC, cond_false]
  simp [sb, h, List.getD_eq_getElem?_getD]
theorem t27d : (tab.get 27).map Ty.d = some (.slice 5) := by kernel_rfl
theorem t5s : (tab.get 5).map Ty.size = some 1 := by kernel_rfl
theorem ix_sl {T : Tr Ty} {t e : TypeId} {s b o len : Nat} {c : Cap} {k : IntKind} {i : Nat} (h1 : (T.get t).map Ty.d = some (.slice e)) (h2 : (T.get e).map Ty.size = some s) (hi : i < len) :
    indexAddrI T t (.slice b o len c) (.int k (i : Int)) = some (.ptr b (o + i * s)) := by
  unfold indexAddrI
  cases ht : T.get t with
  | none => rw [ht] at h1; cases h1
  | some ty =>
    cases he : T.get e with
    | none => rw [he] at h2; cases h2
    | some et =>
      rw [ht] at h1; rw [he] at h2
      simp only [Option.map_some, Option.some.injEq] at h1 h2
      simp only [h1, he, h2]
      rw [if_pos (by omega)]
      simp

theorem yield30 (s : List UInt8) (hs : s.length ≤ 2048) (g : Nat → IV) :
    ClEq Tryd.prog (.func (.yield 4) [] []) [.str s] (h5 s g) (.bool true) (hF s g (lo s s.length) (hi s s.length) (lo s s.length % 65521) (hi s s.length % 65521)) := by
  refine Cl.yield (get4 s g) rfl (by decide) ?_
  refine Ev.px tab_ok mixed (vF30_is s g) (as30_run s g) trivial fun fr1 g1 hf1 => ⟨rfl, _, _, _, _, _, _, _, get4 s g, ?_⟩
  show Ev _ _ _ bd30 _ _ _
  rw [bd30_eq]
  refine Ev.block ?_
  refine Ev.of_flat m30_eq ?_
  refine EvS.px tab_ok mixed hf1 (by simp) (in30_pre s g g1) trivial fun fr g2 hf => ?_
  refine EvS.loop (fun m fr h2 => ∃ i, h2 = hI s g i ∧ i ≤ s.length ∧ m = s.length - i ∧ ∃ g2, FrIs 41 fr (ov [5, 16, 17, 18] (lv30 s i) g2) []) s.length ⟨0, rfl, by omega, by omega, g2, hf⟩ ?_
  rintro m fr h2 ⟨i, rfl, hi1, rfl, g2, hf⟩
  have hc := u8lt s i
  have hl := lo_le s i
  by_cases hlt : i < s.length
  · have hh := hi_le s (i + 1) (by omega)
    simp only [hi, lo] at hh
    refine Ev.px tab_ok mixed hf (in30_go s g g2 i) ⟨by rw [decide_eq_true (by omega)], by rw [ix_sl t27d t5s hlt]; simp, sb_ld hlt, by rw [wrapu32 (by omega) (by omega)], ?_, ?_, w_inc (by omega), trivial⟩ fun fr' g' hf' => ?_
    · rw [wrapu32 (by omega) (by omega)]; simp only [lo]; rw [Int.natCast_add]
    · rw [wrapu32 (by omega) (by simp only [lo]; omega)]; simp only [hi]; rw [Int.natCast_add]
    · exact ⟨s.length - (i + 1), by omega, i + 1, rfl, by omega, rfl, g', hf'⟩
  · obtain rfl : i = s.length := by omega
    refine Ev.px tab_ok mixed hf (in30_end s g g2 _) ⟨by rw [decide_eq_false (by omega)], trivial⟩ fun fr' g' hf' => RoundEnds.out ?_
    refine EvS.pxEnd tab_ok mixed hf' (List.cons_ne_nil _ _) (in30_post s g g' _ (lo s s.length % 65521) (hi s s.length % 65521)) ⟨?_, ?_, trivial⟩ fun fr2 g3 hf2 => ?_
    · rw [show (65521 : Int) = ((65521 : Nat) : Int) from rfl, tmod_nat]
    · rw [show (65521 : Int) = ((65521 : Nat) : Int) from rfl, tmod_nat]
    · exact ⟨_, _, _, _, _, _, _, _, get4e s g _ _ _ _, rfl, rfl⟩

/-! ### The call -/
def oc55 (h : H) : Nat → Nat → Option It := fun f t => match f, t with
  | 55, 5 => some (.w (.bool false))
  | 55, 16 => some (.w (.bool true))
  | 55, 19 => some (.c (.bool true) h)
  | _, _ => none
theorem run55 (s : List UInt8) (g : Nat → IV) (h : H) : pfR Tryd.prog tab (oc55 h) 50 55 [.func (.yield 4) [] [], .ptr 2 0] (h5 s g) =
  some (.tup [], h, [IV.bool (decide ((s.length : Int) > 2048)) = .bool false, IV.bool (decide ((s.length : Int) ≤ 2048)) = .bool true, ClEq Tryd.prog (.func (.yield 4) [] []) [.str s] (h5 s g) (.bool true) h]) := by kernel_rfl
def oc42 (a b : Nat) : Nat → Nat → Option It := fun f t => match f, t with
  | 42, 5 => some (.w (.int .u32 (b * 65536 : Nat)))
  | 42, 8 => some (.w (.int .u32 (b * 65536 + a : Nat)))
  | _, _ => none
theorem post30 (s : List UInt8) (g : Nat → IV) (x y a b : Nat) : psR Tryd.prog tab (oc42 a b) 50 30 none 41 (l30.drop 4) (canon 41 (F30 g) [3]) ((hF s g x y a b).kill 4) [4] =
  some (.ret, [.int .u32 (b * 65536 + a : Nat)], ((hF s g x y a b).kill 4).new (hal a b), [3], [IV.int .u32 (IntKind.wrap .u32 ((b : Int) * 2 ^ (min (16 : Int).toNat 32))) = .int .u32 (b * 65536 : Nat),
    IV.int .u32 (IntKind.wrap .u32 (BitVec.ofInt 32 (b * 65536 : Nat) ||| BitVec.ofInt 32 (a : Nat)).toNat) = .int .u32 (b * 65536 + a : Nat)]) := by kernel_rfl

theorem or_lem {a b : Nat} (ha : a < 65536) (hb : b < 65536) : ((BitVec.ofInt 32 ((b * 65536 : Nat) : Int) ||| BitVec.ofInt 32 (a : Int)).toNat : Int) = (b * 65536 + a : Nat) := by
  congr 1
  rw [BitVec.toNat_or, BitVec.ofInt_natCast, BitVec.ofInt_natCast, BitVec.toNat_ofNat, BitVec.toNat_ofNat, Nat.mod_eq_of_lt (by omega), Nat.mod_eq_of_lt (by omega)]
  have := Nat.shiftLeft_add_eq_or_of_lt (i := 16) (b := a) (by omega) b
  rw [Nat.shiftLeft_eq] at this
  exact this.symm

theorem E0_get (i : Nat) (x : Bx × Bool) (h : E0.get i = some x) : False := by
  simp [E0, H.get, Tr.get] at h

theorem more_holds (s : List UInt8) (hs : s.length ≤ 2048) : (⟨30, [.int .u32 1, .str s], [], .int .u32 (ad s), none⟩ : Fact).Holds Tryd.prog := by
  refine ⟨rfl, enters30, E0, Sp.forget rfl ?_, fun r cs e h => by cases h⟩
  show Sp Tryd.prog 30 [.int .u32 1, .str s] E0 _
  refine Sp.of_ev tab_ok Tryd.func30 (c := bodyC Tryd.prog 30) (by kernel_rfl) (Nat.le_of_ble_eq_true rfl) ?_
  show Ev Tryd.prog none 41 (bodyC Tryd.prog 30) (BodyQ tab [.tmp 4] _) _ _
  refine Ev.of_flat l30_eq ?_
  refine EvS.px tab_ok mixed (FrIs.start 41 _) (by simp) (pre30 s) trivial fun fr g hf => ?_
  refine Ev.block (Ev.canon hf ?_)
  refine Ev.rangeFunc_none (fv30_ev g) rfl enters55 ?_
  refine Cl.of_sp enters55 ?_
  refine Sp.mono (Sp.px tab_ok mixed (run55 s g _) ⟨by rw [decide_eq_false (by omega)], by rw [decide_eq_true (by omega)], yield30 s hs g, trivial⟩) ?_
  rintro v h3' ⟨rfl, rfl⟩
  refine ⟨_, _, _, _, _, _, _, _, get4f s g _ _ _ _, by simp, ?_⟩
  have ha : lo s s.length % 65521 < 65521 := Nat.mod_lt _ (by omega)
  have hb : hi s s.length % 65521 < 65521 := Nat.mod_lt _ (by omega)
  refine EvS.pxEnd (F := F30 g) (ms := [3]) tab_ok mixed ⟨rfl, fun j hj => by rw [canon_tmp, if_pos hj]; rfl⟩ (List.cons_ne_nil _ _) (post30 s g _ _ (lo s s.length % 65521) (hi s s.length % 65521)) ⟨?_, ?_, trivial⟩ fun fr2 g2 hf2 => ?_
  · rw [wrapu32 (by simp; omega) (by simp; omega)]; congr 1
  · rw [or_lem (by omega) (by omega), wrapu32 (by omega) (by omega)]
  · refine ⟨.inr rfl, ((((hF s g (lo s s.length) (hi s s.length) (lo s s.length % 65521) (hi s s.length % 65521)).kill 4).new (hal (lo s s.length % 65521) (hi s s.length % 65521))).kill 3), [.int .u32 (ad s)], by rw [hf2.1]; kernel_rfl, ?_, rfl, fun i x hi1 => (E0_get i x hi1).elim⟩
    show some [fr2.tm.tmp 4] = _
    rw [hf2.2 4 (by decide)]
    rfl

/-- sum.Of, at any heap. -/
theorem of15 (s : List UInt8) (n : Nat) (h : H) : pfR Tryd.prog tab (fun f t => match f, t with | 15, 4 => some (.c (.int .u32 n) h) | _, _ => none) 50 15 [.str s] h =
  some (.int .u32 n, h, [ClEq Tryd.prog (.func (.func 30) [] []) [.int .u32 1, .str s] h (.int .u32 n) h]) := by kernel_rfl
theorem sum_of (s : List UInt8) (hs : s.length ≤ 2048) (h : H) : ClEq Tryd.prog (.func (.func 15) [] []) [.str s] h (.int .u32 (ad s)) h :=
  cl_of enters15 (Sp.px tab_ok mixed (of15 s (ad s) h) ⟨cl_of enters30 (Fact.big (more_holds s hs) (g := id) (fun i cs e hi => by simp at hi) (fun i j hi => by simp at hi) rfl), trivial⟩)
end Go.Proofs.YtoimbaocmeolgaaDoor
