/- errors.Is(e, c), e a fault whose code is c: true. (After the kit's worked example SentryIs, at this dump's numbers.) -/
import Derived.Test.YtoimbaocmeolgaaDoorProg
import Derived.WalkKit
import Derived.LaidEql
import Derived.Stop.Asserts
import Derived.RowKitTokens
namespace Go.Proofs.YtoimbaocmeolgaaDoor
open Go.RowKit Go.Extern.Stop Go.Stop Go.Extern

theorem isTypeOf (v : Value) (w : World) : (Extern.ReflectliteType.typeOf #[.iface 22 v]).run Tryd.prog w = .ok (.iface 109 (.agg #[.pointer (some ⟨3, 22, none⟩)])) w := by kernel_rfl
noncomputable def cmpM : Array Value → Sem Value := Extern.ReflectliteType.method fun t => do Extern.Rtype.noPackHeld "Comparable" t; pure (.bool (← typeInfo t).comparable)
theorem isComparable (w : World) : (cmpM #[.agg #[.pointer (some ⟨3, 22, none⟩)]]).run Tryd.prog w = .ok (.bool true) w := by kernel_rfl
theorem isMethodComparable (v : Value) (w : World) : (Go.method 255 109 v "Comparable").run Tryd.prog w = .ok (86, v) w := by kernel_rfl
theorem isComp : (Tryd.prog.info? 22).map (·.comparable) = some true := by kernel_rfl
theorem noIsW (v : Value) (xT : TypeId) (w : World) : (Instr.typeAssert (.iface 62 v) xT 121 true).run Tryd.prog w = .ok (.tuple #[.nilIface, .bool false]) w := run_typeAssert_lacksB Tryd.underlying121 (by kernel_rfl) (by kernel_rfl) v xT w
theorem hasUnwrapW (v : Value) (xT : TypeId) (w : World) : (Instr.typeAssert (.iface 62 v) xT 116 true).run Tryd.prog w = .ok (.tuple #[.iface 62 v, .bool true]) w := run_typeAssert_hasB Tryd.underlying116 (by kernel_rfl) v xT w
theorem methodUnwrap (v : Value) (w : World) : (Go.method 255 62 v "Unwrap").run Tryd.prog w = .ok (80, v) w := by kernel_rfl

theorem eqlErrno (c : Int) (w : World) : (binOp .eql 37 (.iface 22 (.int .i64 c)) (.iface 22 (.int .i64 c))).run Tryd.prog w = .ok (.bool true) w := by
  obtain ⟨i, hi, hcmp⟩ := Option.map_eq_some_iff.1 isComp
  have h : ∀ d : Nat, (Op.equalIn (d + 2) 37 (.iface 22 (.int .i64 c)) (.iface 22 (.int .i64 c))).run Tryd.prog w = .ok true w := fun d => by
    simp [Op.equalIn, run_underlying Tryd.underlying37, run_underlying Tryd.underlying22, typeInfo, hi, hcmp]
  simp only [binOp]
  simp [Op.equal, Op.maxDepth, h 9998]

set_option maxHeartbeats 4000000 in
theorem is_hit (pb po : Nat) (c : Int) (w : World) (h1 : w.cell? ⟨pb, po, none⟩ = some (.int .i64 c)) :
    Calls Tryd.prog 33 #[.iface 62 (.pointer (some ⟨pb, po, none⟩)), .iface 22 (.int .i64 c)] w fun e w' => e = .returned (.bool true) ∧ w' = w := by
  have h8 := @run_callFunc_extern Tryd.prog 48 _ Extern.ReflectliteType.typeOf Tryd.func48 (by kernel_rfl) (by kernel_rfl) (by kernel_rfl) (by kernel_rfl)
  have h32 := @run_callFunc_extern Tryd.prog 86 _ cmpM Tryd.func86 (by kernel_rfl) (by kernel_rfl) (by kernel_rfl) (by kernel_rfl)
  have tT := isTypeOf
  have cT := isComparable
  have mR := isMethodComparable
  have nW := noIsW
  have uW := hasUnwrapW
  have mU := methodUnwrap
  have heq := eqlErrno c
  have hty := run_eql_iface_types (P := Tryd.prog) 62 22 (.pointer (some ⟨pb, po, none⟩)) (.int .i64 c) Tryd.underlying37 (by decide) w
  go_enter Tryd.func33, Tryd.ntmps33
  go_wp2
  refine wp_loop_rounds 2 ?_
  rw [rounds_succ]
  go_wp2
  rw [rounds_succ]
  go_wp2
  go_ret
  exact ⟨rfl, rfl⟩
end Go.Proofs.YtoimbaocmeolgaaDoor
