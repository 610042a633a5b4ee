/- errors.Is(e, c), e a fault whose code is c: true. (After the kit's worked example SentryIs, at this dump's numbers.) -/
import Derived.Test.YtafolioeipfdpaaDoorProg
import Derived.WalkKit
import Derived.LaidEql
import Derived.Stop.Asserts
import Derived.RowKitTokens
namespace Go.Proofs.YtafolioeipfdpaaDoor
open Go.RowKit Go.Extern.Stop Go.Stop Go.Extern

theorem isTypeOf (v : Value) (w : World) : (Extern.ReflectliteType.typeOf #[.iface 23 v]).run Tryd.prog w = .ok (.iface 87 (.agg #[.pointer (some ⟨1, 23, none⟩)])) w := by kernel_rfl
noncomputable def cmpM : Array Value → Sem Value := Extern.ReflectliteType.method fun t => do Extern.Rtype.noPackHeld "Comparable" t; pure (.bool (← typeInfo t).comparable)
theorem isComparable (w : World) : (cmpM #[.agg #[.pointer (some ⟨1, 23, none⟩)]]).run Tryd.prog w = .ok (.bool true) w := by kernel_rfl
theorem isMethodComparable (v : Value) (w : World) : (Go.method 235 87 v "Comparable").run Tryd.prog w = .ok (71, v) w := by kernel_rfl
theorem isComp : (Tryd.prog.info? 23).map (·.comparable) = some true := by kernel_rfl
theorem noIsW (v : Value) (xT : TypeId) (w : World) : (Instr.typeAssert (.iface 52 v) xT 100 true).run Tryd.prog w = .ok (.tuple #[.nilIface, .bool false]) w := run_typeAssert_lacksB Tryd.underlying100 (by kernel_rfl) (by kernel_rfl) v xT w
theorem hasUnwrapW (v : Value) (xT : TypeId) (w : World) : (Instr.typeAssert (.iface 52 v) xT 94 true).run Tryd.prog w = .ok (.tuple #[.iface 52 v, .bool true]) w := run_typeAssert_hasB Tryd.underlying94 (by kernel_rfl) v xT w
theorem methodUnwrap (v : Value) (w : World) : (Go.method 235 52 v "Unwrap").run Tryd.prog w = .ok (64, v) w := by kernel_rfl

theorem eqlErrno (c : Int) (w : World) : (binOp .eql 29 (.iface 23 (.int .i64 c)) (.iface 23 (.int .i64 c))).run Tryd.prog w = .ok (.bool true) w := by
  obtain ⟨i, hi, hcmp⟩ := Option.map_eq_some_iff.1 isComp
  have h : ∀ d : Nat, (Op.equalIn (d + 2) 29 (.iface 23 (.int .i64 c)) (.iface 23 (.int .i64 c))).run Tryd.prog w = .ok true w := fun d => by
    simp [Op.equalIn, run_underlying Tryd.underlying29, run_underlying Tryd.underlying23, typeInfo, hi, hcmp]
  simp only [binOp]
  simp [Op.equal, Op.maxDepth, h 9998]

set_option maxHeartbeats 4000000 in
theorem is_hit (pb po : Nat) (c : Int) (w : World) (h1 : w.cell? ⟨pb, po, none⟩ = some (.int .i64 c)) :
    Calls Tryd.prog 26 #[.iface 52 (.pointer (some ⟨pb, po, none⟩)), .iface 23 (.int .i64 c)] w fun e w' => e = .returned (.bool true) ∧ w' = w := by
  have h8 := @run_callFunc_extern Tryd.prog 36 _ Extern.ReflectliteType.typeOf Tryd.func36 (by kernel_rfl) (by kernel_rfl) (by kernel_rfl) (by kernel_rfl)
  have h32 := @run_callFunc_extern Tryd.prog 71 _ cmpM Tryd.func71 (by kernel_rfl) (by kernel_rfl) (by kernel_rfl) (by kernel_rfl)
  have tT := isTypeOf
  have cT := isComparable
  have mR := isMethodComparable
  have nW := noIsW
  have uW := hasUnwrapW
  have mU := methodUnwrap
  have heq := eqlErrno c
  have hty := run_eql_iface_types (P := Tryd.prog) 52 23 (.pointer (some ⟨pb, po, none⟩)) (.int .i64 c) Tryd.underlying29 (by decide) w
  go_enter Tryd.func26, Tryd.ntmps26
  go_wp2
  refine wp_loop_rounds 2 ?_
  rw [rounds_succ]
  go_wp2
  rw [rounds_succ]
  go_wp2
  go_ret
  exact ⟨rfl, rfl⟩
end Go.Proofs.YtafolioeipfdpaaDoor
