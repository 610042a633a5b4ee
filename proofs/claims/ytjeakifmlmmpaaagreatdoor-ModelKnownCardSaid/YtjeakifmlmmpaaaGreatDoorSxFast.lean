/- The ideal machine as the kernel runs it: continuations, so that what is passed on is in normal form. -/
import Derived.Test.YtjeakifmlmmpaaaGreatDoorSxRun
namespace Sx
open Go Go.RowKit
set_option linter.unusedSimpArgs false

/-! ### Trees -/
noncomputable def kget {α : Type} (t : Tr α) : Nat → Option α :=
  Tr.rec (motive := fun _ => Nat → Option α) (fun _ => none)
    (fun _ _ v gl gr n => bif Nat.beq n 0 then v else bif Nat.beq (Nat.mod n 2) 1 then gl (Nat.div n 2) else gr (Nat.sub (Nat.div n 2) 1)) t

theorem kget_eq {α : Type} (t : Tr α) : ∀ n, kget t n = t.get n := by
  induction t with
  | leaf => intro n; rfl
  | node l r v ihl ihr =>
    intro n
    simp only [Tr.get, ← ihl, ← ihr]
    rfl

noncomputable def kset {α β : Type} (f : Nat) : Tr α → Nat → Option α → (Tr α → β) → β :=
  Nat.rec (motive := fun _ => Tr α → Nat → Option α → (Tr α → β) → β) (fun t _ _ k => k t)
    (fun _ ih t n a k => Tr.casesOn (motive := fun _ => β) t
      (bif Nat.beq n 0 then k (.node .leaf .leaf a) else
        bif Nat.beq (Nat.mod n 2) 1 then ih .leaf (Nat.div n 2) a (fun l => k (.node l .leaf none)) else ih .leaf (Nat.sub (Nat.div n 2) 1) a (fun r => k (.node .leaf r none)))
      (fun l r v => bif Nat.beq n 0 then k (.node l r a) else
        bif Nat.beq (Nat.mod n 2) 1 then ih l (Nat.div n 2) a (fun l => k (.node l r v)) else ih r (Nat.sub (Nat.div n 2) 1) a (fun r => k (.node l r v)))) f

theorem kset_eq {α β : Type} : ∀ (f : Nat) (t : Tr α) (n : Nat) (a : Option α) (k : Tr α → β), kset f t n a k = k (Tr.setF f t n a) := by
  intro f
  induction f with
  | zero => intro t n a k; cases t <;> rfl
  | succ f ih =>
    intro t n a k
    have e : kset (f + 1) t n a k = Tr.casesOn (motive := fun _ => β) t
      (bif Nat.beq n 0 then k (.node .leaf .leaf a) else
        bif Nat.beq (Nat.mod n 2) 1 then kset f .leaf (Nat.div n 2) a (fun l => k (.node l .leaf none)) else kset f .leaf (Nat.sub (Nat.div n 2) 1) a (fun r => k (.node .leaf r none)))
      (fun l r v => bif Nat.beq n 0 then k (.node l r a) else
        bif Nat.beq (Nat.mod n 2) 1 then kset f l (Nat.div n 2) a (fun l => k (.node l r v)) else kset f r (Nat.sub (Nat.div n 2) 1) a (fun r => k (.node l r v))) := rfl
    rw [e]
    cases t with
    | leaf =>
      simp only [ih, Tr.setF]
      show (bif Nat.beq n 0 then _ else bif Nat.beq (n % 2) 1 then k (.node (Tr.setF f .leaf (n / 2) a) _ _) else k (.node _ (Tr.setF f .leaf (n / 2 - 1) a) _)) = _
      cases Nat.beq n 0 <;> cases Nat.beq (n % 2) 1 <;> rfl
    | node l r v =>
      simp only [ih, Tr.setF]
      show (bif Nat.beq n 0 then _ else bif Nat.beq (n % 2) 1 then k (.node (Tr.setF f l (n / 2) a) _ _) else k (.node _ (Tr.setF f r (n / 2 - 1) a) _)) = _
      cases Nat.beq n 0 <;> cases Nat.beq (n % 2) 1 <;> rfl

noncomputable def ksetT {α β : Type} (t : Tr α) (n : Nat) (a : Option α) (k : Tr α → β) : β := kset (Nat.succ n) t n a k
theorem ksetT_eq {α β : Type} (t : Tr α) (n : Nat) (a : Option α) (k : Tr α → β) : ksetT t n a k = k (t.set n a) := kset_eq _ _ _ _ _

/-! ### Normal forms -/
noncomputable def fNat {β : Type} (n : Nat) (k : Nat → β) : β := Nat.casesOn (motive := fun _ => β) n (k 0) (fun m => k (Nat.succ m))
theorem fNat_eq {β : Type} (n : Nat) (k : Nat → β) : fNat n k = k n := by cases n <;> rfl

noncomputable def fInt {β : Type} (n : Int) (k : Int → β) : β := Int.casesOn (motive := fun _ => β) n (fun m => fNat m fun m => k (Int.ofNat m)) (fun m => fNat m fun m => k (Int.negSucc m))
theorem fInt_eq {β : Type} (n : Int) (k : Int → β) : fInt n k = k n := by
  cases n
  · exact fNat_eq _ fun m => k (Int.ofNat m)
  · exact fNat_eq _ fun m => k (Int.negSucc m)

noncomputable def fBool {β : Type} (b : Bool) (k : Bool → β) : β := Bool.casesOn (motive := fun _ => β) b (k false) (k true)
theorem fBool_eq {β : Type} (b : Bool) (k : Bool → β) : fBool b k = k b := by cases b <;> rfl

noncomputable def fList {α β : Type} (f : α → (α → β) → β) (l : List α) : (List α → β) → β :=
  List.rec (motive := fun _ => (List α → β) → β) (fun k => k []) (fun a _ ih k => f a fun a => ih fun l => k (a :: l)) l
theorem fList_eq {α β : Type} {f : α → (α → β) → β} (hf : ∀ a k, f a k = k a) (l : List α) : ∀ k, fList f l k = k l := by
  induction l with
  | nil => intro k; rfl
  | cons a l ih =>
    intro k
    show f a (fun a => fList f l fun l => k (a :: l)) = _
    rw [hf, ih]

noncomputable def fCap {β : Type} (c : Cap) (k : Cap → β) : β := match c with
  | .hard n => fNat n fun n => k (.hard n)
  | .soft n => fNat n fun n => k (.soft n)
theorem fCap_eq {β : Type} (c : Cap) (k : Cap → β) : fCap c k = k c := by
  cases c <;> simp only [fCap, fNat_eq]

/-- Values, to a depth. -/
noncomputable def fIV {β : Type} (d : Nat) : IV → (IV → β) → β :=
  Nat.rec (motive := fun _ => IV → (IV → β) → β) (fun v k => k v)
    (fun _ ih v => match v with
      | .bool b => fun k => fBool b fun b => k (.bool b)
      | .int kd n => fun k => fInt n fun n => k (.int kd n)
      | .ptr b o => fun k => fNat b fun b => fNat o fun o => k (.ptr b o)
      | .slice b o n c => fun k => fNat b fun b => fNat o fun o => fNat n fun n => fCap c fun c => k (.slice b o n c)
      | .agg cs => fun k => fList ih cs fun cs => k (.agg cs)
      | .tup cs => fun k => fList ih cs fun cs => k (.tup cs)
      | .str s => fun k => fList (fun a k => k a) s fun s => k (.str s)
      | .map b => fun k => fNat b fun b => k (.map b)
      | .iface t v => fun k => fNat t fun t => ih v fun v => k (.iface t v)
      | v => fun k => k v) d
theorem fIV_eq {β : Type} (d : Nat) : ∀ (v : IV) (k : IV → β), fIV d v k = k v := by
  induction d with
  | zero => intro v k; rfl
  | succ d ih =>
    intro v k
    have hl : ∀ (l : List IV) (k : List IV → β), fList (fIV d) l k = k l := fList_eq ih
    have hs : ∀ (l : List UInt8) (k : List UInt8 → β), fList (fun a k => k a) l k = k l := fList_eq fun _ _ => rfl
    cases v with
    | bool b => exact fBool_eq b fun b => k (.bool b)
    | int kd n => exact fInt_eq n fun n => k (.int kd n)
    | ptr b o => exact (fNat_eq b fun b => fNat o fun o => k (.ptr b o)).trans (fNat_eq o fun o => k (.ptr b o))
    | slice b o n c =>
      show fNat b (fun b => fNat o fun o => fNat n fun n => fCap c fun c => k (.slice b o n c)) = _
      rw [fNat_eq, fNat_eq, fNat_eq, fCap_eq]
    | agg cs => exact hl cs fun cs => k (.agg cs)
    | tup cs => exact hl cs fun cs => k (.tup cs)
    | str s => exact hs s fun s => k (.str s)
    | map b => exact fNat_eq b fun b => k (.map b)
    | iface t v =>
      show fNat t (fun t => fIV d v fun v => k (.iface t v)) = _
      rw [fNat_eq, ih]
    | _ => rfl

/-! ### Numbers -/
noncomputable def kw64 (n : Int) : Int := Int.casesOn (motive := fun _ => Int) n
  (fun m => bif Nat.ble m 9223372036854775807 then Int.ofNat m else IntKind.wrap .i64 (Int.ofNat m))
  (fun m => bif Nat.ble m 9223372036854775807 then Int.negSucc m else IntKind.wrap .i64 (Int.negSucc m))
theorem wrap_i64_self (n : Int) (h0 : -9223372036854775808 ≤ n) (h1 : n ≤ 9223372036854775807) : IntKind.wrap .i64 n = n := by
  rw [IntKind.wrap_i64]
  omega
theorem cond_le (m N : Nat) (a b : Int) (h : m ≤ N → a = b) : (bif Nat.ble m N then a else b) = b := by
  cases hb : Nat.ble m N with
  | false => rfl
  | true => exact h (Nat.le_of_ble_eq_true hb)
theorem kw64_eq (n : Int) : kw64 n = IntKind.wrap .i64 n := by
  cases n with
  | ofNat m => exact cond_le m _ _ _ fun h => (wrap_i64_self _ (by simp) (by simp; omega)).symm
  | negSucc m => exact cond_le m _ _ _ fun h => (wrap_i64_self _ (by omega) (by omega)).symm

noncomputable def kwrap (k : IntKind) : Int → Int := match k with
  | .i64 => kw64
  | k => k.wrap
theorem kwrap_eq (k : IntKind) (n : Int) : kwrap k n = k.wrap n := by
  cases k <;> first | rfl | exact kw64_eq n

noncomputable def klt (x y : Int) : Bool := Int.casesOn (motive := fun _ => Bool) x
  (fun a => Int.casesOn (motive := fun _ => Bool) y (fun b => Nat.ble (Nat.succ a) b) (fun _ => false))
  (fun a => Int.casesOn (motive := fun _ => Bool) y (fun _ => true) (fun b => Nat.ble (Nat.succ b) a))
theorem bleE (a b : Nat) : Nat.ble a b = decide (a ≤ b) := by
  by_cases h : a ≤ b
  · rw [Nat.ble_eq_true_of_le h]; simp [h]
  · have : Nat.ble a b = false := by
      cases e : Nat.ble a b
      · rfl
      · exact absurd (Nat.le_of_ble_eq_true e) h
    simp [this, h]
theorem beqE (a b : Nat) : Nat.beq a b = decide (a = b) := by
  by_cases h : a = b
  · subst h; simp
  · have : Nat.beq a b = false := by
      cases e : Nat.beq a b
      · rfl
      · exact absurd (Nat.eq_of_beq_eq_true e) h
    simp [this, h]
theorem klt_eq (x y : Int) : klt x y = decide (x < y) := by
  cases x <;> cases y
  · exact (bleE _ _).trans (by rw [decide_eq_decide]; simp; omega)
  · exact (decide_eq_false (by simp; omega)).symm
  · exact (decide_eq_true (by simp; omega)).symm
  · exact (bleE _ _).trans (by rw [decide_eq_decide]; simp; omega)
noncomputable def keq (x y : Int) : Bool := Int.casesOn (motive := fun _ => Bool) x
  (fun a => Int.casesOn (motive := fun _ => Bool) y (fun b => Nat.beq a b) (fun _ => false))
  (fun a => Int.casesOn (motive := fun _ => Bool) y (fun _ => false) (fun b => Nat.beq a b))
theorem keq_eq (x y : Int) : keq x y = (x == y) := by
  rw [Bool.beq_eq_decide_eq]
  cases x <;> cases y
  · exact (beqE _ _).trans (by rw [decide_eq_decide]; simp; omega)
  · exact (decide_eq_false (by simp)).symm
  · exact (decide_eq_false (by simp)).symm
  · exact (beqE _ _).trans (by rw [decide_eq_decide]; simp)
end Sx
