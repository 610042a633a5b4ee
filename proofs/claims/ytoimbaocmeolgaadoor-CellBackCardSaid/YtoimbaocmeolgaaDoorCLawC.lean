/- The law CellBack. -/
import Derived.Test.YtoimbaocmeolgaaDoorCTurn
namespace Go.Proofs.YtoimbaocmeolgaaDoor
open Go Sx Go.RowKit

/-- What is pure at the start is pure at every heap that holds the start's block. -/
theorem any_glob {f : Nat} {args : List IV} {v : IV} {h0 : H} (h0one : ∀ i y, h0.get i = some y → i = 0 ∧ y = (.glob 0 109 3 37, false)) (hlt : 0 < h0.next) (ha : underLB 0 args = true) (hv : v.flat = true) (hs : SpEq Tryd.prog f args h0 v h0) {h : H} (hg : h.get 0 = some (.glob 0 109 3 37, false)) :
    SpEq Tryd.prog f args h v h := by
  intro w0 E w hr hu
  have hrel : Rel Tryd.prog w E h0 w := by
    refine ⟨Below.refl _ _, fun i x hi => ?_, fun i o wr hi => ?_, fun i o hi => ?_, fun i j x y hi hj _ => ?_⟩
    · rw [(h0one i x hi).1]; exact hlt
    · obtain ⟨rfl, e⟩ := h0one i _ hi
      cases e
      have := hr.obj 0 _ _ hg
      exact ⟨this.1, this.2⟩
    · obtain ⟨rfl, e⟩ := h0one i _ hi
      cases e
    · rw [(h0one i x hi).1, (h0one j y hj).1]
  refine (hs w E w hrel (underL_mono (Nat.zero_le _) _ (underLB_ok ha))).mono ?_
  rintro e w' ⟨v', h2, E', rfl, hr', hs', hv', rfl, rfl⟩
  refine ⟨v', h, E, ?_, hr.grow hr'.below, Step.refl _ _, IV.under_of_flat _ _ hv, rfl, rfl⟩
  rw [IV.den_ext (n := 0) (E := E) (E' := E') (fun i hi => by omega) v' (IV.under_of_flat 0 v' hv)]

/-! ### fails -/
def hxP : H := ((h1F 8 252).new (.cells [.int .i64 8, .int .i64 252] 49)).new (.cells [.nilptr] 62)
def hyP : H := hxP.put 4 (.cells [.ptr 2 0] 62)
def oc14 : Nat → Nat → Option It := fun f t => match f, t with
  | 14, 12 => some (.c (flt 2) (h1F 8 252))
  | 18, 22 => some (.c (.bool true) hyP)
  | 18, 35 => some (.c (.bool true) hyP)
  | _, _ => none
theorem run14 (s : List UInt8) : pfG Tryd.prog tab oc14 60 14 [.str s, .int .i64 8, .int .i64 252] hK 0 = some (.bool true, some (.glob 0 109 3 37, false), [
  ClEq Tryd.prog (.func (.func 13) [] []) [.str s] hK (flt 2) (h1F 8 252),
  ClEq Tryd.prog (.func (.func 32) [] []) [.iface 62 (.ptr 2 0), .iface 64 (.ptr 4 0)] hxP (.bool true) hyP,
  ClEq Tryd.prog (.func (.func 33) [] []) [.iface 62 (.ptr 2 0), .iface 22 (.int .i64 8)] hyP (.bool true) hyP]) := by kernel_rfl
theorem enters14 : Go.Proofs.Enters Tryd.prog 14 := Go.Proofs.enters_of Tryd.func14 (by kernel_rfl) rfl
theorem fails_cl {s : List UInt8} (ht : Tells s 8 252) {h : H} (hg : h.get 0 = some (.glob 0 109 3 37, false)) : ClEq Tryd.prog (.func (.func 14) [] []) [.str s, .int .i64 8, .int .i64 252] h (.bool true) h :=
  cl_of enters14 (any_glob hK_one (by decide) rfl rfl (Sp.pxG tab_ok mixed rfl hK_one (run14 s) ⟨ht hK,
    cl_of enters_As ((asS_sound as_c enters_As).1 32 [.iface 62 (.ptr 2 0), .iface 64 (.ptr 4 0)] hxP (.bool true) hyP (by kernel_rfl)),
    cl_of enters_Is ((isS_sound is_c enters_Is).1 33 [.iface 62 (.ptr 2 0), .iface 22 (.int .i64 8)] hyP (.bool true) hyP (by kernel_rfl)), trivial⟩) hg)
theorem works_any {h : H} (hg : h.get 0 = some (.glob 0 109 3 37, false)) : ClEq Tryd.prog (.func (.func 9) [] []) [] h (.bool true) h :=
  cl_of enters9 (any_glob hK_one (by decide) rfl rfl (keepK_sp (n := 100000) rfl (by kernel_rfl)) hg)

/-! ### The law -/
structure BD where
  kind : Nat
  q : Nat
  body : List UInt8
  b1 : List UInt8
  S : List UInt8
  a : Nat
  by' : UInt8
  ix : Nat
  c : UInt8
  other : List UInt8
  odd : List UInt8
def hB1 (d : BD) : H := hG.new (.cells [.int .u16 d.a, .int .u8 (d.by'.toNat : Nat), .str d.other] 35)
def hB3 (d : BD) : H := (hB1 d).new (.cells (sb (d.S.set d.ix d.c)) 5)
def hB4 (d : BD) (c a : Int) : H := (hB3 d).new (.cells [.int .i64 c, .int .i64 a] 49)
def oc5 (d : BD) (nz : Bool) (fv : IV) (fh : H) : Nat → Nat → Option It := fun f t => match f, t with
  | 5, 20 => some (.c (.bool true) (hB1 d))
  | 5, 23 => some (.w (.int .i64 d.kind))
  | 5, 24 => some (.w (.int .i64 d.q))
  | 5, 25 => some (.w (.int .i64 (d.q + 1 : Nat)))
  | 5, 29 => some (.w (.int .i64 d.b1.length))
  | 5, 30 => some (.o (.str d.b1))
  | 5, 34 => some (.p (.tup [.str d.S, .int .i64 0]))
  | 5, 39 => some (.p (.tup [.int .i64 (d.q + 1 : Nat), .str d.b1, .nilif]))
  | 5, 52 => some (.w (.bool false))
  | 5, 57 => some (.w (.bool false))
  | 5, 64 => some (.w (.int .i64 d.a))
  | 5, 65 => some (.w (.int .i64 d.ix))
  | 5, 66 => some (.o (.ptr 2 d.ix))
  | 5, 67 => some (.o (.int .u8 ((d.S.getD d.ix 0).toNat : Nat)))
  | 5, 70 => some (.w (.int .u8 (d.c.toNat : Nat)))
  | 5, 71 => some (.o (.ptr 2 d.ix))
  | 5, 1071 => some (.s (sb (d.S.set d.ix d.c)))
  | 5, 74 => some (.w (.bool nz))
  | 5, 77 => some (.g (.str (d.S.set d.ix d.c)) (hB3 d))
  | 5, 78 => some (.c (.bool true) (hB3 d))
  | 5, 86 => some (.w (.int .i64 d.odd.length))
  | 5, 87 => some (.o (.str d.odd))
  | 5, 90 => some (.c fv fh)
  | 5, 105 => some (.p (.tup [.str d.odd, .int .i64 0]))
  | 5, 113 => some (.w (.bool true))
  | _, _ => none
def args5 (d : BD) : List IV := [.int .u8 d.kind, .str d.body, .agg [.int .u16 d.a, .int .u8 (d.by'.toNat : Nat), .str d.other]]
def obA (d : BD) : List Prop := [
  ClEq Tryd.prog (.func (.func 9) [] []) [] (hB1 d) (.bool true) (hB1 d),
  IV.int .i64 (IntKind.wrap .i64 (d.kind : Int)) = .int .i64 d.kind,
  IV.int .i64 ((d.kind : Int).tmod 255) = .int .i64 d.q,
  IV.int .i64 (IntKind.wrap .i64 (1 + (d.q : Int))) = .int .i64 (d.q + 1 : Nat),
  IV.int .i64 (if (240 : Int) < (d.body.length : Nat) then 240 else (d.body.length : Nat)) = .int .i64 d.b1.length,
  sliceI tab 9 (.str d.body) none (some (.int .i64 d.b1.length)) none ⟨.leaf, 0⟩ = some (.str d.b1),
  ∀ hh, ClEq Tryd.prog (.func (.func 7) [] []) [.int .i64 (d.q + 1 : Nat), .str d.b1] hh (.tup [.str d.S, .int .i64 0]) hh,
  ∀ hh, ClEq Tryd.prog (.func (.func 13) [] []) [.str d.S] hh (.tup [.int .i64 (d.q + 1 : Nat), .str d.b1, .nilif]) hh,
  IV.bool (((d.q + 1 : Nat) : Int) != (d.q + 1 : Nat)) = .bool false,
  IV.bool (d.b1 != d.b1) = .bool false,
  IV.int .i64 (IntKind.wrap .i64 (d.a : Int)) = .int .i64 d.a,
  IV.int .i64 ((d.a : Int).tmod 256) = .int .i64 d.ix,
  indexAddrI tab 27 (.slice 2 0 d.S.length (.soft 0)) (.int .i64 d.ix) = some (.ptr 2 d.ix),
  ldC false 1 (sb d.S) d.ix = some (.int .u8 ((d.S.getD d.ix 0).toNat : Nat)),
  IV.int .u8 (IntKind.wrap .u8 (BitVec.ofInt 8 ((d.S.getD d.ix 0).toNat : Int) ^^^ BitVec.ofInt 8 (d.by'.toNat : Int)).toNat) = .int .u8 (d.c.toNat : Nat),
  indexAddrI tab 27 (.slice 2 0 d.S.length (.soft 0)) (.int .i64 d.ix) = some (.ptr 2 d.ix),
  stC 1 (sb d.S) d.ix (.int .u8 (d.c.toNat : Nat)) = some (sb (d.S.set d.ix d.c))]
def obN (d : BD) : List Prop := [
  IV.bool ((d.by'.toNat : Int) != 0) = .bool true,
  convI tab 27 9 (.slice 2 0 d.S.length (.soft 0)) (hB3 d) = some (.str (d.S.set d.ix d.c), hB3 d),
  ClEq Tryd.prog (.func (.func 14) [] []) [.str (d.S.set d.ix d.c), .int .i64 8, .int .i64 252] (hB3 d) (.bool true) (hB3 d)]
def obZ (d : BD) : List Prop := [IV.bool ((d.by'.toNat : Int) != 0) = .bool false]
def obO (d : BD) : List Prop := [
  IV.int .i64 (if (300 : Int) < (d.other.length : Nat) then 300 else (d.other.length : Nat)) = .int .i64 d.odd.length,
  sliceI tab 9 (.str d.other) none (some (.int .i64 d.odd.length)) none ⟨.leaf, 0⟩ = some (.str d.odd)]
theorem run5Nf (d : BD) (c a : Int) : pfG Tryd.prog tab (oc5 d true (flt 3) (hB4 d c a)) 60 5 (args5 d) hG 0 = some (.bool true, some (.glob 0 109 3 37, false), obA d ++ obN d ++ obO d ++ [
  ClEq Tryd.prog (.func (.func 13) [] []) [.str d.odd] (hB3 d) (flt 3) (hB4 d c a)]) := by kernel_rfl
theorem run5Zf (d : BD) (c a : Int) : pfG Tryd.prog tab (oc5 d false (flt 3) (hB4 d c a)) 60 5 (args5 d) hG 0 = some (.bool true, some (.glob 0 109 3 37, false), obA d ++ obZ d ++ obO d ++ [
  ClEq Tryd.prog (.func (.func 13) [] []) [.str d.odd] (hB3 d) (flt 3) (hB4 d c a)]) := by kernel_rfl
def obS (d : BD) (k : Nat) (b : List UInt8) : List Prop := [
  ClEq Tryd.prog (.func (.func 13) [] []) [.str d.odd] (hB3 d) (.tup [.int .i64 k, .str b, .nilif]) (hB3 d),
  ∀ hh, ClEq Tryd.prog (.func (.func 7) [] []) [.int .i64 k, .str b] hh (.tup [.str d.odd, .int .i64 0]) hh,
  IV.bool (d.odd == d.odd) = .bool true]
theorem run5No (d : BD) (k : Nat) (b : List UInt8) : pfG Tryd.prog tab (oc5 d true (.tup [.int .i64 k, .str b, .nilif]) (hB3 d)) 60 5 (args5 d) hG 0 = some (.bool true, some (.glob 0 109 3 37, false), obA d ++ obN d ++ obO d ++ obS d k b) := by kernel_rfl
theorem run5Zo (d : BD) (k : Nat) (b : List UInt8) : pfG Tryd.prog tab (oc5 d false (.tup [.int .i64 k, .str b, .nilif]) (hB3 d)) 60 5 (args5 d) hG 0 = some (.bool true, some (.glob 0 109 3 37, false), obA d ++ obZ d ++ obO d ++ obS d k b) := by kernel_rfl
end Go.Proofs.YtoimbaocmeolgaaDoor
