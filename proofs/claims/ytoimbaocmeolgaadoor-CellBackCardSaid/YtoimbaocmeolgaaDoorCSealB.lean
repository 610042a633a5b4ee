/- What the program's Seal and the reference's answer: the conditions of the runs, shown. -/
import Derived.Test.YtoimbaocmeolgaaDoorCSeal
namespace Go.Proofs.YtoimbaocmeolgaaDoor
open Go Sx Go.RowKit

theorem t5i : (tab.get 5).map (fun t => (t.size, t.bytes, t.zv)) = some (1, 1, .int .u8 0) := by kernel_rfl
theorem t5d : (tab.get 5).map Ty.d = some (.int .u8) := by kernel_rfl
theorem t9d : (tab.get 9).map Ty.d = some .string := by kernel_rfl
theorem wrapu8 {n : Int} (h0 : 0 ≤ n) (h1 : n < 256) : IntKind.wrap .u8 n = n := by
  rw [show IntKind.wrap .u8 n = n % 256 by simp [IntKind.wrap, IntKind.bits, IntKind.signed]]; omega
theorem wrapu64 {n : Int} (h0 : 0 ≤ n) (h1 : n < 18446744073709551616) : IntKind.wrap .u64 n = n := by
  rw [show IntKind.wrap .u64 n = n % 18446744073709551616 by simp [IntKind.wrap, IntKind.bits, IntKind.signed]]; omega

theorem zeros_one (x : IV) (n : Nat) : zerosI [x] n = List.replicate n x := by
  unfold zerosI
  induction n with
  | zero => rfl
  | succ n ih => rw [List.replicate_succ, List.flatten_cons, ih, List.replicate_succ]; rfl

theorem mk_ok {n : Nat} (hn : n ≤ 1099511627776) (h : H) : makeSliceI tab 27 (.int .i64 n) (.int .i64 n) h = some (.slice h.next 0 n (.hard n), h.new (.cells (List.replicate n (.int .u8 0)) 5)) := by
  have h1 := t27d
  have h2 := t5i
  unfold makeSliceI
  cases ht : tab.get 27 with
  | none => rw [ht] at h1; cases h1
  | some ty =>
    cases he : tab.get 5 with
    | none => rw [he] at h2; cases h2
    | some et =>
      rw [ht] at h1; rw [he] at h2
      simp only [Option.map_some, Option.some.injEq, Prod.mk.injEq] at h1 h2
      simp only [h1, he, h2.1, h2.2.1, h2.2.2]
      rw [if_pos ⟨by omega, Int.le_refl _, by omega, by omega, rfl, by omega⟩]
      simp only [IV.cells, zeros_one, Int.toNat_natCast]

theorem bytesI_sb (l : List UInt8) : bytesI (sb l) = some l := bytesI_bytes l
theorem sb_replicate (n : Nat) : sb (List.replicate n 0) = List.replicate n (.int .u8 0) := by simp [sb]

/-- A slice of bytes made a string. -/
theorem conv_str {h : H} {b o len : Nat} {c : Cap} {cs : List IV} {e : TypeId} {wr : Bool} {s : List UInt8} (hg : h.get b = some (.cells cs e, wr)) (hl : o + len ≤ cs.length) (hs : (cs.drop o).take len = sb s) :
    convI tab 27 9 (.slice b o len c) h = some (.str s, h) := by
  have h1 := t27d
  have h2 := t9d
  have h3 := t5d
  unfold convI
  cases ht : tab.get 27 with
  | none => rw [ht] at h1; cases h1
  | some ty =>
    cases h9 : tab.get 9 with
    | none => rw [h9] at h2; cases h2
    | some t9 =>
      rw [ht] at h1; rw [h9] at h2
      simp only [Option.map_some, Option.some.injEq] at h1 h2
      simp only [h1, h2, hg, h3]
      rw [show Nat.ble (o + len) cs.length = true from Nat.ble_eq_true_of_le hl, hs, bytesI_sb]
      rfl

theorem cel_length (c : Nat → UInt8) : (cel c).length = 256 := by simp [cel]
theorem cel_get (c : Nat → UInt8) {j : Nat} (h : j < 256) : (cel c)[j]? = some (.int .u8 ((c j).toNat : Nat)) := by simp [cel, h]

theorem splice_eq {α : Type} : ∀ (vs cs : List α) (o : Nat), o + vs.length ≤ cs.length → splice cs o vs = cs.take o ++ vs ++ cs.drop (o + vs.length)
  | [], cs, o, _ => by simp [splice]
  | v :: vs, cs, o, h => by
    simp only [List.length_cons] at h
    simp only [splice]
    rw [splice_eq vs (cs.set o v) (o + 1) (by simp; omega)]
    have h1 : (cs.set o v).take (o + 1) = cs.take o ++ [v] := by
      rw [List.take_set, List.take_succ_eq_append_getElem (by omega), List.set_append_right _ _ (by simp; omega)]
      simp [show min o cs.length = o by omega]
    rw [h1, List.drop_set_of_lt (by omega), List.length_cons, show o + 1 + vs.length = o + (vs.length + 1) by omega]
    simp

theorem splice_two (a b x : IV) (vs : List IV) (N : Nat) (h : vs.length ≤ N) : splice ([a, b] ++ List.replicate N x) 2 vs = [a, b] ++ vs ++ List.replicate (N - vs.length) x := by
  rw [splice_eq _ _ _ (by simp; omega)]
  have h1 : ([a, b] ++ List.replicate N x).take 2 = [a, b] := rfl
  have h2 : ([a, b] ++ List.replicate N x).drop (2 + vs.length) = List.replicate (N - vs.length) x := by
    rw [show 2 + vs.length = vs.length + 1 + 1 by omega]
    simp only [List.cons_append, List.nil_append, List.drop_succ_cons, List.drop_replicate]
  rw [h1, h2]
theorem rep4 (m : Nat) (x : IV) (h : m ≤ 250) : List.replicate (250 - m) x ++ List.replicate 4 x = List.replicate (254 - m) x := by
  rw [List.replicate_append_replicate, show 250 - m + 4 = 254 - m by omega]

theorem copy_ok (kind : Int) {body : List UInt8} (hk : 0 ≤ kind ∧ kind < 256) (hm : body.length ≤ 240) :
    builtinI tab .copy [27, 9] [.slice 0 2 254 (.hard 254), .str body] (hS0 kind body.length) = some (.int .i64 (body.length : Nat), hS1 (pre kind.toNat body)) := by
  have h1 := t27d
  have h2 := t5i
  simp only [builtinI]
  unfold copyI
  cases ht : tab.get 27 with
  | none => rw [ht] at h1; cases h1
  | some ty =>
    cases he : tab.get 5 with
    | none => rw [he] at h2; cases h2
    | some et =>
      rw [ht] at h1; rw [he] at h2
      simp only [Option.map_some, Option.some.injEq, Prod.mk.injEq] at h1 h2
      have hg : (hS0 kind body.length).get 0 = some (.cells ([.int .u8 kind, .int .u8 body.length] ++ List.replicate 254 (.int .u8 0)) 46, true) := rfl
      simp only [h1, lenOfI, he, h2.1, copySrcI, hg, Nat.min_eq_left (show body.length ≤ 254 by omega), List.take_length]
      have hlen : ([IV.int .u8 kind, IV.int .u8 (body.length : Nat)] ++ List.replicate 254 (IV.int .u8 0)).length = 256 := by rw [List.length_append, List.length_replicate]; rfl
      have hcond : (Nat.ble (2 + (List.map (fun b : UInt8 => IV.int .u8 (b.toNat : Nat)) body).length) ([IV.int .u8 kind, IV.int .u8 (body.length : Nat)] ++ List.replicate 254 (IV.int .u8 0)).length && (List.map (fun b : UInt8 => IV.int .u8 (b.toNat : Nat)) body).all IV.one) = true := by
        rw [Bool.and_eq_true]
        refine ⟨Nat.ble_eq_true_of_le (by rw [hlen, List.length_map]; omega), ?_⟩
        simp [IV.one]
      rw [hcond]
      simp only [cond_true, Option.some.injEq, Prod.mk.injEq, true_and]
      have key : splice ([IV.int .u8 kind, .int .u8 body.length] ++ List.replicate 254 (.int .u8 0)) 2 (body.map fun b => IV.int .u8 b.toNat) = cel (cOf (pre kind.toNat body)) := by
        have e1 : splice ([IV.int .u8 kind, .int .u8 body.length] ++ List.replicate 254 (.int .u8 0)) 2 (body.map fun b => IV.int .u8 b.toNat) =
            [IV.int .u8 kind, .int .u8 body.length] ++ body.map (fun b => IV.int .u8 b.toNat) ++ List.replicate (254 - body.length) (.int .u8 0) := by
          rw [splice_two _ _ _ _ _ (by rw [List.length_map]; omega), List.length_map]
        have e2 : cel (cOf (pre kind.toNat body)) = sb (pre kind.toNat body ++ List.replicate 4 0) := by
          apply List.ext_getElem?
          intro j
          by_cases hj : j < 256
          · rw [cel_get _ hj]
            simp only [sb, List.getElem?_map]
            by_cases hj2 : j < 252
            · rw [List.getElem?_append_left (by rw [pre_length _ hm]; exact hj2)]
              simp only [cOf, List.getD_eq_getElem?_getD]
              rw [List.getElem?_eq_getElem (by rw [pre_length _ hm]; exact hj2)]
              rfl
            · rw [List.getElem?_append_right (by rw [pre_length _ hm]; omega), List.getElem?_replicate, if_pos (by rw [pre_length _ hm]; omega)]
              simp only [cOf, List.getD_eq_getElem?_getD]
              rw [List.getElem?_eq_none (by rw [pre_length _ hm]; omega)]
              rfl
          · rw [List.getElem?_eq_none (by rw [cel_length]; omega), List.getElem?_eq_none (by simp [sb, pre_length _ hm]; omega)]
        rw [e1, e2]
        have e3 : ((UInt8.ofNat kind.toNat).toNat : Int) = kind := by
          rw [UInt8.toNat_ofNat', Nat.mod_eq_of_lt (by omega)]; omega
        have e4 : ((UInt8.ofNat body.length).toNat : Int) = body.length := by
          rw [UInt8.toNat_ofNat', Nat.mod_eq_of_lt (by omega)]
        simp only [sb, pre, List.map_append, List.map_cons, List.map_nil, List.map_replicate, e3, e4, List.append_assoc]
        have e5 : IV.int .u8 (((0 : UInt8).toNat : Nat) : Int) = .int .u8 0 := rfl
        rw [e5, rep4 _ _ (by omega)]
      rw [key]
      rfl

theorem pre_list (k : Nat) {body : List UInt8} (hm : body.length ≤ 240) : ((List.range 252).map fun j => UInt8.ofNat ((cOf (pre k body) j).toNat : Int).toNat) = pre k body := by
  apply List.ext_getElem?
  intro j
  by_cases hj : j < 252
  · simp only [List.getElem?_map, List.getElem?_range hj, Option.map_some, cOf, List.getD_eq_getElem?_getD]
    rw [List.getElem?_eq_getElem (by rw [pre_length _ hm]; exact hj)]
    simp
  · rw [List.getElem?_eq_none (by simp; omega), List.getElem?_eq_none (by rw [pre_length _ hm]; omega)]

theorem by8_eq {n : Nat} (hn : n < 4294967296) : [by8 n 3, by8 n 2, by8 n 1, by8 n 0] = be n 4 := by
  have w : IntKind.wrap .u64 (n : Int) = n := wrapu64 (by omega) (by omega)
  have key : ∀ (i : Int) (d : Nat), 0 < d → (2 : Int) ^ (min (IntKind.wrap .i64 (8 * i)).toNat 64) = (d : Int) → by8 n i = UInt8.ofNat (n / d % 256) := by
    intro i d hd h
    unfold by8
    rw [w, h, Int.fdiv_eq_ediv_of_nonneg _ (by omega), show IntKind.wrap .u8 ((n : Int) / (d : Int)) = ((n / d % 256 : Nat) : Int) by
      rw [show IntKind.wrap .u8 ((n : Int) / (d : Int)) = ((n : Int) / (d : Int)) % 256 by simp [IntKind.wrap, IntKind.bits, IntKind.signed]]
      rw [← Int.natCast_ediv]; omega]
    rw [Int.toNat_natCast]
  rw [key 3 16777216 (by omega) rfl, key 2 65536 (by omega) rfl, key 1 256 (by omega) rfl, key 0 1 (by omega) rfl]
  simp only [be, List.nil_append, List.singleton_append, List.cons_append, List.append_assoc, Nat.div_div_eq_div_mul, Nat.div_one]

theorem enters7 : Go.Proofs.Enters Tryd.prog 7 := Go.Proofs.enters_of Tryd.func7 (by kernel_rfl) rfl
theorem enters8 : Go.Proofs.Enters Tryd.prog 8 := Go.Proofs.enters_of Tryd.func8 (by kernel_rfl) rfl

/-- What both answer. -/
def sealV (kind : Int) (body : List UInt8) : IV :=
  if kind < 1 ∨ kind > 255 then .tup [.str [], .int .i64 6] else if body.length > 240 then .tup [.str [], .int .i64 4] else .tup [.str (sealed kind.toNat body), .int .i64 0]

theorem seal_ref (kind : Int) (body : List UInt8) (hb : body.length < 4611686018427387904) (h : H) : ClEq Tryd.prog (.func (.func 8) [] []) [.int .i64 kind, .str body] h (sealV kind body) h := by
  unfold sealV
  by_cases h1 : kind < 1
  · rw [if_pos (.inl h1)]
    exact cl_of enters8 (Sp.anyH enters8 rfl rfl rfl (Sp.pxV tab_ok mixed rfl (run8low kind body) ⟨by rw [decide_eq_true h1], trivial⟩) h)
  · by_cases h2 : kind > 255
    · rw [if_pos (.inr h2)]
      exact cl_of enters8 (Sp.anyH enters8 rfl rfl rfl (Sp.pxV tab_ok mixed rfl (run8high kind body) ⟨by rw [decide_eq_false h1], by rw [decide_eq_true h2], trivial⟩) h)
    · rw [if_neg (by omega)]
      by_cases h3 : body.length > 240
      · rw [if_pos h3]
        exact cl_of enters8 (Sp.anyH enters8 rfl rfl rfl (Sp.pxV tab_ok mixed rfl (run8long kind body) ⟨by rw [decide_eq_false h1], by rw [decide_eq_false h2], by rw [decide_eq_true (by omega)], trivial⟩) h)
      · rw [if_neg h3]
        have hl := pre_length kind.toNat (body := body) (by omega)
        have had := ad_lt (pre kind.toNat body)
        refine cl_of enters8 (Sp.anyH enters8 rfl rfl rfl (Sp.pxV tab_ok mixed rfl (run8 kind body) ⟨by rw [decide_eq_false h1], by rw [decide_eq_false h2], by rw [decide_eq_false (by omega)], ?_, ?_, ?_, ?_, ?_, ?_, ?_, ?_,
          fun hh => ref_of _ (by omega) hh, ?_, fun hh => bytes_of 4 _ (by omega) (by omega) hh, ?_, trivial⟩) h)
        · rw [wrapu8 (by omega) (by omega)]
        · rw [wrapu8 (by omega) (by omega)]
        · rfl
        · simp only [binI, strBinI]
          rw [if_pos (by simp; omega)]
        · have hl2 : ([UInt8.ofNat kind.toNat, UInt8.ofNat body.length] ++ body).length = body.length + 2 := by rw [List.length_append, Nat.add_comm]; rfl
          have hl3 : (252 : Int) - ((body.length + 2 : Nat) : Int) = ((250 - body.length : Nat) : Int) := by omega
          rw [hl2, wrap64 (by omega) (by omega), hl3]
        · exact mk_ok (by omega) _
        · refine conv_str (cs := List.replicate (250 - body.length) (.int .u8 0)) (e := 5) (wr := true) (by kernel_rfl) (by simp) ?_
          rw [List.drop_zero, List.take_of_length_le (by simp), sb_replicate]
        · simp only [binI, strBinI]
          rw [if_pos (by simp; omega)]
          rfl
        · rw [wrapu64 (by omega) (by omega)]
        · simp only [binI, strBinI]
          rw [if_pos (by simp [be_length, hl])]
          rfl

theorem seal_prog (kind : Int) (body : List UInt8) (hb : body.length < 4611686018427387904) (h : H) : ClEq Tryd.prog (.func (.func 7) [] []) [.int .i64 kind, .str body] h (sealV kind body) h := by
  unfold sealV
  by_cases h1 : kind < 1
  · rw [if_pos (.inl h1)]
    exact cl_of enters7 (Sp.anyH enters7 rfl rfl rfl (Sp.pxV tab_ok mixed rfl (run7low kind body) ⟨by rw [decide_eq_true h1], trivial⟩) h)
  · by_cases h2 : kind > 255
    · rw [if_pos (.inr h2)]
      exact cl_of enters7 (Sp.anyH enters7 rfl rfl rfl (Sp.pxV tab_ok mixed rfl (run7high kind body) ⟨by rw [decide_eq_false h1], by rw [decide_eq_true h2], trivial⟩) h)
    · rw [if_neg (by omega)]
      by_cases h3 : body.length > 240
      · rw [if_pos h3]
        exact cl_of enters7 (Sp.anyH enters7 rfl rfl rfl (Sp.pxV tab_ok mixed rfl (run7long kind body) ⟨by rw [decide_eq_false h1], by rw [decide_eq_false h2], by rw [decide_eq_true (by omega)], trivial⟩) h)
      · rw [if_neg h3]
        have hl := pre_length kind.toNat (body := body) (by omega)
        have had := ad_lt (pre kind.toNat body)
        refine cl_of enters7 (Sp.anyH enters7 rfl rfl rfl (Sp.pxV tab_ok mixed rfl (run7 kind body) ⟨by rw [decide_eq_false h1], by rw [decide_eq_false h2], by rw [decide_eq_false (by omega)], ?_, ?_, copy_ok kind (by omega) (by omega), ?_,
          fun hh => sum_of _ (by omega) hh, ?_, trivial⟩) h)
        · rw [wrapu8 (by omega) (by omega)]
        · rw [wrapu8 (by omega) (by omega)]
        · rw [pre_list _ (by omega)]
        · rw [pre_list _ (by omega), by8_eq had]; rfl
end Go.Proofs.YtoimbaocmeolgaaDoor
