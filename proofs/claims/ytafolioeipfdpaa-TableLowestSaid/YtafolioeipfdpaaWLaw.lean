/- The law TableLowest: pages are taken one behind the other, those that were dropped first. -/
import Derived.Test.YtafolioeipfdpaaWLow
namespace Go.Proofs.Ytafolioeipfdpaa
open Go Sx Go.RowKit

theorem kw_holds : (⟨4, [], [], .bool true, none⟩ : Fact).Holds Try.prog := Fact.holds_of_check tab_ok mixed (ks := []) (n := 100000) (fun _ h => by cases h) (by kernel_rfl)
theorem enters4 : Go.Proofs.Enters Try.prog 4 := Go.Proofs.enters_of Try.func4 (by kernel_rfl) rfl
theorem works_cl (h : H) : ClEq Try.prog (.func (.func 4) [] []) [] h (.bool true) h :=
  cl_of enters4 (Fact.big kw_holds (g := id) (fun i cs e hi => by simp at hi) (fun i j hi => by simp at hi) rfl)

noncomputable def l3 : List Code := flat (bodyC Try.prog 3)
theorem l3_eq : flat (bodyC Try.prog 3) = l3.take 8 ++ (.block 0 (.loop (loopAt l3 8)) :: l3.drop 9) := by kernel_rfl
theorem l3_eq2 : l3.drop 9 = (l3.drop 9).take 2 ++ (.block 2 (.loop (loopAt l3 11)) :: l3.drop 12) := by kernel_rfl

/-! ### Up to the first loop -/
def ocA (g0 : Option (Bx × Bool)) (n : Int) (many : Nat) : Nat → Nat → Option It := fun f t => match f, t with
  | 3, 15 => some (.c (.bool true) (h00 g0))
  | 3, 21 => some (.w (.int .i64 n))
  | 3, 22 => some (.w (.int .i64 many))
  | _, _ => none
theorem runA (g0 : Option (Bx × Bool)) (n : Int) (many : Nat) (gv : IV) : psR Try.prog tab (ocA g0 n many) 50 3 none 109 (l3.take 8) (canon 109 (fun j => [IV.int .u16 n, gv].getD j undefI) []) (h00 g0) [1, 5, 6, 7] =
  some (.normal, [gv, .ptr 1 0, .int .i64 many, .int .i64 ((0 + 1 : Nat) : Int)], hp g0 (fun _ => 0) 0, [], [ClEq Try.prog (.func (.func 4) [] []) [] (h00 g0) (.bool true) (h00 g0),
    IV.int .i64 (IntKind.wrap .i64 n) = .int .i64 n, IV.int .i64 (n.tmod 961) = .int .i64 many]) := by kernel_rfl

/-! ### The first loop -/
def ocB (h h' : H) (k : Nat) (go : Bool) : Nat → Nat → Option It := fun f t => match f, t with
  | 3, 25 => some (.w (.bool go))
  | 3, 30 => some (.c (.tup [.int .i64 ((k + 1 : Nat) : Int), .int .i64 0]) h)
  | 3, 38 => some (.w (.bool false))
  | 3, 44 => some (.w (.int .i64 ((k + 3 : Nat) : Int)))
  | 3, 45 => some (.c (.int .i64 0) h')
  | 3, 27 => some (.w (.int .i64 ((k + 2 : Nat) : Int)))
  | _, _ => none
theorem runB_go (h h' : H) (k many : Nat) (gv : IV) (g : Nat → IV) : pxR Try.prog tab (ocB h h' k true) 50 3 none 109 (loopAt l3 8) (canon 109 (ov [1, 5, 6, 7] [gv, .ptr 1 0, .int .i64 many, .int .i64 ((k + 1 : Nat) : Int)] g) []) h [1, 5, 6, 7] =
  some (.normal, [gv, .ptr 1 0, .int .i64 many, .int .i64 ((k + 2 : Nat) : Int)], h', [], [IV.bool (decide (((k + 1 : Nat) : Int) ≤ many)) = .bool true,
    ClEq Try.prog (.func (.func 6) [] []) [.ptr 1 0] h (.tup [.int .i64 ((k + 1 : Nat) : Int), .int .i64 0]) h,
    IV.bool (((k + 1 : Nat) : Int) != ((k + 1 : Nat) : Int)) = .bool false,
    IV.int .i64 (IntKind.wrap .i64 (2 + ((k + 1 : Nat) : Int))) = .int .i64 ((k + 3 : Nat) : Int),
    ClEq Try.prog (.func (.func 7) [] []) [.ptr 1 0, .int .i64 ((k + 1 : Nat) : Int), .int .i64 ((k + 3 : Nat) : Int)] h (.int .i64 0) h',
    IV.int .i64 (IntKind.wrap .i64 (((k + 1 : Nat) : Int) + 1)) = .int .i64 ((k + 2 : Nat) : Int)]) := by kernel_rfl
theorem runB_end (h : H) (k many : Nat) (gv : IV) (g : Nat → IV) : pxR Try.prog tab (ocB h h k false) 50 3 none 109 (loopAt l3 8) (canon 109 (ov [1, 5, 6, 7] [gv, .ptr 1 0, .int .i64 many, .int .i64 ((k + 1 : Nat) : Int)] g) []) h [1, 5, 6] =
  some (.exit 0, [gv, .ptr 1 0, .int .i64 many], h, [], [IV.bool (decide (((k + 1 : Nat) : Int) ≤ many)) = .bool false]) := by kernel_rfl

/-! ### Between the loops -/
def ocC (many : Nat) : Nat → Nat → Option It := fun f t => match f, t with
  | 3, 49 => some (.w (.int .i64 ((many + 1 : Nat) : Int)))
  | _, _ => none
theorem runC (h : H) (many : Nat) (gv : IV) (g : Nat → IV) : psR Try.prog tab (ocC many) 50 3 none 109 ((l3.drop 9).take 2) (canon 109 (ov [1, 5, 6] [gv, .ptr 1 0, .int .i64 many] g) []) h [1, 5, 6, 10, 11] =
  some (.normal, [gv, .ptr 1 0, .int .i64 many, .int .i64 ((many + 1 : Nat) : Int), .int .i64 ((0 : Nat) : Int)], h, [], [IV.int .i64 (IntKind.wrap .i64 ((many : Int) + 1)) = .int .i64 ((many + 1 : Nat) : Int)]) := by kernel_rfl

/-! ### The second loop -/
def liveD (gv : IV) (many least i : Nat) : List IV := [gv, .ptr 1 0, .int .i64 many, .int .i64 least, .int .i64 i]
def ocD (h : H) (gs : List Int) (off cap i least : Nat) (lt lt50 dr low hit : Bool) : Nat → Nat → Option It := fun f t => match f, t with
  | 3, 53 => some (.w (.bool lt))
  | 3, 56 => some (.w (.bool lt50))
  | 3, 62 => some (.o (.ptr 0 (off + i)))
  | 3, 63 => some (.o (.int .u16 (gs.getD i 0)))
  | 3, 64 => some (.w (.int .i64 (gs.getD i 0)))
  | 3, 65 => some (.w (.int .i64 (pg gs i : Nat)))
  | 3, 66 => some (.w (.int .i64 ((pg gs i : Int) + 1)))
  | 3, 69 => some (.c (.int .i64 (bif dr then 0 else 13)) h)
  | 3, 73 => some (.w (.bool low))
  | 3, 77 => some (.o (.slice 0 off i (.hard cap)))
  | 3, 79 => some (.c (.bool hit) h)
  | 3, 85 => some (.w (.bool low))
  | 3, 88 => some (.w (.int .i64 least))
  | 3, 59 => some (.w (.int .i64 ((i + 1 : Nat) : Int)))
  | _, _ => none
theorem runD_nil (h : H) (many least : Nat) (g : Nat → IV) : pxR Try.prog tab (fun _ _ => none) 50 3 none 109 (loopAt l3 11) (canon 109 (ov [1, 5, 6, 10, 11] (liveD .nilslice many least 0) g) []) h [1, 5, 6, 10, 11] =
  some (.exit 2, liveD .nilslice many least 0, h, [], []) := by kernel_rfl
theorem runD_end (h : H) (gs : List Int) (off cap len i many least : Nat) (g : Nat → IV) : pxR Try.prog tab (ocD h gs off cap i least false false false false false) 50 3 none 109 (loopAt l3 11) (canon 109 (ov [1, 5, 6, 10, 11] (liveD (.slice 0 off len (.hard cap)) many least i) g) []) h [1, 5, 6, 10, 11] =
  some (.exit 2, liveD (.slice 0 off len (.hard cap)) many least i, h, [], [IV.bool (decide ((i : Int) < len)) = .bool false]) := by kernel_rfl
theorem runD_end50 (h : H) (gs : List Int) (off cap len i many least : Nat) (g : Nat → IV) : pxR Try.prog tab (ocD h gs off cap i least true false false false false) 50 3 none 109 (loopAt l3 11) (canon 109 (ov [1, 5, 6, 10, 11] (liveD (.slice 0 off len (.hard cap)) many least i) g) []) h [1, 5, 6, 10, 11] =
  some (.exit 2, liveD (.slice 0 off len (.hard cap)) many least i, h, [], [IV.bool (decide ((i : Int) < len)) = .bool true, IV.bool (decide ((i : Int) < 50)) = .bool false]) := by kernel_rfl
theorem runD_a (a : Nat → Int) (d : Int) (h' : H) (gs : List Int) (off cap len i many least least' : Nat) (g : Nat → IV) : pxR Try.prog tab (ocD h' gs off cap i least' true true true true false) 50 3 none 109 (loopAt l3 11) (canon 109 (ov [1, 5, 6, 10, 11] (liveD (.slice 0 off len (.hard cap)) many least i) g) []) (hp (rows off gs) a d) [1, 5, 6, 10, 11] =
  some (.normal, liveD (.slice 0 off len (.hard cap)) many least' (i + 1), h', [], [IV.bool (decide ((i : Int) < len)) = .bool true, IV.bool (decide ((i : Int) < 50)) = .bool true,
    indexAddrI tab 23 (.slice 0 off len (.hard cap)) (.int .i64 i) = some (.ptr 0 (off + i)),
    roC false off (gs.map fun z => .int .u16 z) (off + i) = some (.int .u16 (gs.getD i 0)),
    IV.int .i64 (IntKind.wrap .i64 (gs.getD i 0)) = .int .i64 (gs.getD i 0),
    IV.int .i64 ((gs.getD i 0).tmod 960) = .int .i64 (pg gs i : Nat),
    IV.int .i64 (IntKind.wrap .i64 (1 + (pg gs i : Int))) = .int .i64 ((pg gs i : Int) + 1),
    ClEq Try.prog (.func (.func 8) [] []) [.ptr 1 0, .int .i64 ((pg gs i : Int) + 1)] (hp (rows off gs) a d) (.int .i64 0) h',
    IV.bool (decide ((pg gs i : Int) + 1 ≤ many)) = .bool true,
    sliceI tab 23 (.slice 0 off len (.hard cap)) none (some (.int .i64 i)) none h' = some (.slice 0 off i (.hard cap)),
    ClEq Try.prog (.func (.func 9) [] []) [.slice 0 off i (.hard cap), .int .i64 ((pg gs i : Int) + 1)] h' (.bool false) h',
    IV.bool (decide ((pg gs i : Int) + 1 ≤ many)) = .bool true,
    IV.int .i64 (if (pg gs i : Int) + 1 < least then (pg gs i : Int) + 1 else least) = .int .i64 least',
    IV.int .i64 (IntKind.wrap .i64 ((i : Int) + 1)) = .int .i64 ((i + 1 : Nat) : Int)]) := by kernel_rfl
theorem runD_b (a : Nat → Int) (d : Int) (gs : List Int) (off cap len i many least least' : Nat) (g : Nat → IV) : pxR Try.prog tab (ocD (hp (rows off gs) a d) gs off cap i least' true true false true true) 50 3 none 109 (loopAt l3 11) (canon 109 (ov [1, 5, 6, 10, 11] (liveD (.slice 0 off len (.hard cap)) many least i) g) []) (hp (rows off gs) a d) [1, 5, 6, 10, 11] =
  some (.normal, liveD (.slice 0 off len (.hard cap)) many least' (i + 1), hp (rows off gs) a d, [], [IV.bool (decide ((i : Int) < len)) = .bool true, IV.bool (decide ((i : Int) < 50)) = .bool true,
    indexAddrI tab 23 (.slice 0 off len (.hard cap)) (.int .i64 i) = some (.ptr 0 (off + i)),
    roC false off (gs.map fun z => .int .u16 z) (off + i) = some (.int .u16 (gs.getD i 0)),
    IV.int .i64 (IntKind.wrap .i64 (gs.getD i 0)) = .int .i64 (gs.getD i 0),
    IV.int .i64 ((gs.getD i 0).tmod 960) = .int .i64 (pg gs i : Nat),
    IV.int .i64 (IntKind.wrap .i64 (1 + (pg gs i : Int))) = .int .i64 ((pg gs i : Int) + 1),
    ClEq Try.prog (.func (.func 8) [] []) [.ptr 1 0, .int .i64 ((pg gs i : Int) + 1)] (hp (rows off gs) a d) (.int .i64 13) (hp (rows off gs) a d),
    IV.bool (decide ((pg gs i : Int) + 1 ≤ many)) = .bool true,
    sliceI tab 23 (.slice 0 off len (.hard cap)) none (some (.int .i64 i)) none (hp (rows off gs) a d) = some (.slice 0 off i (.hard cap)),
    ClEq Try.prog (.func (.func 9) [] []) [.slice 0 off i (.hard cap), .int .i64 ((pg gs i : Int) + 1)] (hp (rows off gs) a d) (.bool true) (hp (rows off gs) a d),
    IV.bool (decide ((pg gs i : Int) + 1 ≤ many)) = .bool true,
    IV.int .i64 (if (pg gs i : Int) + 1 < least then (pg gs i : Int) + 1 else least) = .int .i64 least',
    IV.int .i64 (IntKind.wrap .i64 ((i : Int) + 1)) = .int .i64 ((i + 1 : Nat) : Int)]) := by kernel_rfl
theorem runD_c (a : Nat → Int) (d : Int) (gs : List Int) (off cap len i many least : Nat) (g : Nat → IV) : pxR Try.prog tab (ocD (hp (rows off gs) a d) gs off cap i least true true false false true) 50 3 none 109 (loopAt l3 11) (canon 109 (ov [1, 5, 6, 10, 11] (liveD (.slice 0 off len (.hard cap)) many least i) g) []) (hp (rows off gs) a d) [1, 5, 6, 10, 11] =
  some (.normal, liveD (.slice 0 off len (.hard cap)) many least (i + 1), hp (rows off gs) a d, [], [IV.bool (decide ((i : Int) < len)) = .bool true, IV.bool (decide ((i : Int) < 50)) = .bool true,
    indexAddrI tab 23 (.slice 0 off len (.hard cap)) (.int .i64 i) = some (.ptr 0 (off + i)),
    roC false off (gs.map fun z => .int .u16 z) (off + i) = some (.int .u16 (gs.getD i 0)),
    IV.int .i64 (IntKind.wrap .i64 (gs.getD i 0)) = .int .i64 (gs.getD i 0),
    IV.int .i64 ((gs.getD i 0).tmod 960) = .int .i64 (pg gs i : Nat),
    IV.int .i64 (IntKind.wrap .i64 (1 + (pg gs i : Int))) = .int .i64 ((pg gs i : Int) + 1),
    ClEq Try.prog (.func (.func 8) [] []) [.ptr 1 0, .int .i64 ((pg gs i : Int) + 1)] (hp (rows off gs) a d) (.int .i64 13) (hp (rows off gs) a d),
    IV.bool (decide ((pg gs i : Int) + 1 ≤ many)) = .bool false,
    IV.bool (decide ((pg gs i : Int) + 1 ≤ many)) = .bool false,
    IV.int .i64 (IntKind.wrap .i64 ((i : Int) + 1)) = .int .i64 ((i + 1 : Nat) : Int)]) := by kernel_rfl

/-! ### The end -/
def ocE (h : H) (v : IV) (full : Bool) : Nat → Nat → Option It := fun f t => match f, t with
  | 3, 91 => some (.c v h)
  | 3, 95 => some (.w (.bool full))
  | 3, 104 => some (.w (.bool true))
  | _, _ => none
theorem runE_full (h : H) (gv : IV) (many least i : Nat) (g : Nat → IV) : psR Try.prog tab (ocE h (.tup [.int .i64 0, .int .i64 15]) true) 50 3 none 109 (l3.drop 12) (canon 109 (ov [1, 5, 6, 10, 11] (liveD gv many least i) g) []) h [4] =
  some (.ret, [.bool true], h, [], [ClEq Try.prog (.func (.func 6) [] []) [.ptr 1 0] h (.tup [.int .i64 0, .int .i64 15]) h, IV.bool (decide ((least : Int) > 960)) = .bool true]) := by kernel_rfl
theorem runE_hit (h : H) (gv : IV) (many least i : Nat) (g : Nat → IV) : psR Try.prog tab (ocE h (.tup [.int .i64 least, .int .i64 0]) false) 50 3 none 109 (l3.drop 12) (canon 109 (ov [1, 5, 6, 10, 11] (liveD gv many least i) g) []) h [4] =
  some (.ret, [.bool true], h, [], [ClEq Try.prog (.func (.func 6) [] []) [.ptr 1 0] h (.tup [.int .i64 least, .int .i64 0]) h, IV.bool (decide ((least : Int) > 960)) = .bool false, IV.bool ((least : Int) == least) = .bool true]) := by kernel_rfl
end Go.Proofs.Ytafolioeipfdpaa
