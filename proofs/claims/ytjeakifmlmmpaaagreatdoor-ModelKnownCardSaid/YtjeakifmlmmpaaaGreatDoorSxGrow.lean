/- append, copy, conversions. -/
import Derived.Test.YtjeakifmlmmpaaaGreatDoorSxBulk
import Derived.Lib.ConvBytes
namespace Sx
open Go Go.RowKit
set_option linter.unusedSimpArgs false

section
variable {P : Program} {T : Tr Ty} (hT : TabOK P T) {w0 : World} {E : Env} {h : H} {w : World}

/-! ### append -/
theorem growBy_le (n : Nat) : ∀ (r c : Nat), c < n → Builtin.growBy n r c ≤ 2 * n + 768 := by
  intro r
  induction r with
  | zero => intro c hc; simp [Builtin.growBy]; omega
  | succ r ih =>
    intro c hc
    simp only [Builtin.growBy]
    rw [if_neg (by omega)]
    by_cases h2 : c + (c + 768) / 4 < n
    · exact ih _ h2
    · cases r with
      | zero => simp only [Builtin.growBy]; omega
      | succ r => simp only [Builtin.growBy]; rw [if_pos (by omega)]; omega

theorem nextslicecap_le (n c : Nat) (h : c < n) : Builtin.nextslicecap n c ≤ 2 * n + 768 := by
  unfold Builtin.nextslicecap
  split
  · omega
  · split
    · omega
    · exact growBy_le n 4 c h

/-- What an append's second argument yields: how many elements, and their cells. -/
def srcI (T : Tr Ty) (tx : TypeId) (size : Nat) (x : IV) (h : H) : Option (Nat × List IV) :=
  match T.get tx, x with
  | some ty, .slice b o n _ =>
    match ty.d, h.get b with
    | .slice _, some (.cells cs _, _) => bif Nat.ble (o + n * size) cs.length && ((cs.drop o).take (n * size)).all IV.one then some (n, (cs.drop o).take (n * size)) else none
    | _, _ => none
  | some ty, .nilslice => match ty.d with
    | .slice _ => some (0, [])
    | _ => none
  | some ty, .tail _ _ _ _ => match ty.d with
    | .slice _ => some (0, [])
    | _ => none
  | some ty, .str s => match ty.d with
    | .string => bif Nat.beq size 1 then some (s.length, s.map fun b => .int .u8 b.toNat) else none
    | _ => none
  | _, _ => none

include hT in
theorem srcI_run (hr : Rel P w0 E h w) {tx : TypeId} {size : Nat} {x : IV} {n : Nat} {news : List IV} (hs : srcI T tx size x h = some (n, news)) :
    Src P size tx (x.den E) n (denL E news) w ∧ underL h.next news ∧ news.length = n * size := by
  unfold srcI at hs
  split at hs
  · rename_i ty b o n' c ht
    have hu := (hT _ _ ht).und
    split at hs
    · rename_i e cs e' wr hd hg
      cases hc : (Nat.ble (o + n' * size) cs.length && ((cs.drop o).take (n' * size)).all IV.one) with
      | false => rw [hc] at hs; cases hs
      | true =>
        rw [hc] at hs
        cases hs
        simp only [Bool.and_eq_true] at hc
        have c1 := Nat.le_of_ble_eq_true hc.1
        have hl : ((cs.drop o).take (n * size)).length = n * size := by simp; omega
        refine ⟨?_, ?_, hl⟩
        · rw [hd] at hu
          refine Src.ofSlice w hu _ n _ _ (by rw [length_denL, hl]) (fun j u hj => ?_) (fun u hu' => ?_)
          · rw [Addr.add_mk]
            rw [denL_eq, List.getElem?_map] at hj
            cases hx : ((cs.drop o).take (n * size))[j]? with
            | none => rw [hx] at hj; cases hj
            | some y =>
              rw [hx] at hj
              cases hj
              have hlt : j < n * size := by have := (List.getElem?_eq_some_iff.1 hx).1; rw [hl] at this; exact this
              rw [List.getElem?_take_of_lt hlt, List.getElem?_drop] at hx
              exact hr.cell hg hx
          · rw [denL_eq, List.mem_map] at hu'
            obtain ⟨y, hy, rfl⟩ := hu'
            exact IV.one_den (List.all_eq_true.1 hc.2 y hy) E
        · obtain ⟨_, _, _, _, _, h3, _⟩ := hr.cells hg
          exact (underL_iff _ _).2 fun v hv => (underL_iff _ _).1 h3 v (List.mem_of_mem_drop (List.mem_of_mem_take hv))
    · cases hs
  · rename_i ty ht
    have hu := (hT _ _ ht).und
    split at hs
    · rename_i e hd
      cases hs
      rw [hd] at hu
      exact ⟨Src.ofNil w hu 0, by simp [underL], by simp⟩
    · cases hs
  · rename_i ty b o k s ht
    have hu := (hT _ _ ht).und
    split at hs
    · rename_i e hd
      cases hs
      rw [hd] at hu
      exact ⟨Src.ofSlice w hu _ 0 _ [] (by simp) (fun j u hj => by simp at hj) (fun u hu' => by simp at hu'), by simp [underL], by simp⟩
    · cases hs
  · rename_i ty s ht
    have hu := (hT _ _ ht).und
    split at hs
    · rename_i hd
      cases hc : Nat.beq size 1 with
      | false => rw [hc] at hs; cases hs
      | true =>
        rw [hc] at hs
        cases hs
        have := Nat.eq_of_beq_eq_true hc
        subst this
        rw [hd] at hu
        have hb : byteCells ⟨s.toArray⟩ = denL E (s.map fun b => IV.int .u8 b.toNat) := by
          simp [byteCells, denL_eq, IV.den, Function.comp_def]
        refine ⟨?_, (underL_iff _ _).2 fun v hv => ?_, by simp⟩
        · have := Src.ofString w (P := P) hu ⟨s.toArray⟩
          rw [hb] at this
          simpa [ByteArray.size, IV.den] using this
        · obtain ⟨b, _, rfl⟩ := List.mem_map.1 hv
          simp [IV.under]
    · cases hs
  · cases hs

def appendI (T : Tr Ty) (t tx : TypeId) (s x : IV) (h : H) : Option (IV × H) :=
  match T.get t with
  | none => none
  | some ty =>
  match ty.d with
  | .slice e =>
    match T.get e with
    | none => none
    | some et =>
    match srcI T tx et.size x h with
    | none => none
    | some (n, news) =>
    match s with
    | .nilslice =>
      if n = 0 then some (.nilslice, h) else
      if n ≤ 1099511627776 ∧ (2 * n + 768) * et.bytes ≤ 281474976710656 ∧ et.zv.cells.length = et.size then some (.slice h.next 0 n (.soft 0), h.new (.cells news e)) else none
    | .slice b o len (.hard c) =>
      match h.get b with
      | some (.cells cs e', wr) =>
        if len + n ≤ c then
          (bif wr && Nat.ble (o + (len + n) * et.size) cs.length then some (.slice b o (len + n) (.hard c), h.put b (.cells (splice cs (o + len * et.size) news) e')) else none)
        else if len + n ≤ 1099511627776 ∧ (2 * (len + n) + 768) * et.bytes ≤ 281474976710656 ∧ et.zv.cells.length = et.size ∧ o + len * et.size ≤ cs.length then
          some (.slice h.next 0 (len + n) (.soft 0), h.new (.cells ((cs.drop o).take (len * et.size) ++ news) e))
        else none
      | _ => none
    | .slice b 0 len (.soft 0) =>
      match h.get b with
      | some (.cells cs e', true) =>
        if e' = e ∧ 0 < et.size ∧ cs.length = len * et.size ∧ len + n ≤ 1099511627776 ∧ (2 * (len + n) + 768) * et.bytes ≤ 281474976710656 ∧ et.zv.cells.length = et.size then
          some (.slice h.next 0 (len + n) (.soft 0), (h.kill b).new (.cells (cs ++ news) e))
        else none
      | _ => none
    | _ => none
  | _ => none

/-- A new row by growing. -/
theorem grown_new (hr : Rel P w0 E h w) {e : TypeId} {et : Ty} (het : TyOK P e et) {cs : List IV} {len n cap : Nat} (hu : underL h.next cs) (hl : cs.length = (len + n) * et.size) (hz : et.zv.cells.length = et.size) :
    let g := grownCap w (len + n) cap e
    Rel P w0 (E.bind h.next w.heap.size g) (h.new (.cells cs e)) (w.drew.alloc (.cells ((denL E cs).toArray ++ Builtin.zeroCells (et.zv.den E).cells (g - (len + n))) e)) ∧
      Step E h (E.bind h.next w.heap.size g) (h.new (.cells cs e)) := by
  intro g
  have hge : len + n ≤ g := by simp only [g, grownCap, Question.cut]; omega
  have := newCells_run (hr.drew (w.drawn + 1)) cs e g (Builtin.zeroCells (et.zv.den E).cells (g - (len + n))).toList hu (by
    rw [het.cellsOf, hl, Array.length_toList, size_zeroCells, den_cells, List.size_toArray, length_denL, hz, ← Nat.add_mul]
    congr 1
    omega)
  have e1 : (denL E cs ++ (Builtin.zeroCells (et.zv.den E).cells (g - (len + n))).toList).toArray = (denL E cs).toArray ++ Builtin.zeroCells (et.zv.den E).cells (g - (len + n)) := by
    apply Array.ext'; simp
  rw [e1] at this
  exact this

theorem Rel.under_take (hr : Rel P w0 E h w) {b o n : Nat} {cs : List IV} {e : TypeId} {wr : Bool} (hg : h.get b = some (.cells cs e, wr)) : underL h.next ((cs.drop o).take n) := by
  obtain ⟨_, _, _, _, _, h3, _⟩ := hr.cells hg
  exact (underL_iff _ _).2 fun v hv => (underL_iff _ _).1 h3 v (List.mem_of_mem_drop (List.mem_of_mem_take hv))

theorem underL_append {n : Nat} {a b : List IV} (ha : underL n a) (hb : underL n b) : underL n (a ++ b) :=
  (underL_iff _ _).2 fun v hv => (List.mem_append.1 hv).elim ((underL_iff _ _).1 ha v) ((underL_iff _ _).1 hb v)

theorem denL_append (E : Env) (a b : List IV) : denL E (a ++ b) = denL E a ++ denL E b := by simp [denL_eq]

theorem splice_end {α : Type} (vs : List α) : ∀ (a ex : List α), vs.length ≤ ex.length → splice (a ++ ex) a.length vs = a ++ vs ++ ex.drop vs.length := by
  induction vs with
  | nil => intro a ex _; simp [splice]
  | cons v vs ih =>
    intro a ex h
    cases ex with
    | nil => simp at h
    | cons x ex =>
      have h1 : (a ++ x :: ex).set a.length v = (a ++ [v]) ++ ex := by simp
      have h2 := ih (a ++ [v]) ex (by simpa using h)
      simp only [splice, h1]
      rw [List.length_append] at h2
      simpa using h2

/-- A block goes on under a new name. -/
theorem Rel.move (hr : Rel P w0 E h w) {b : Nat} {o o' : Bx} {ob : Obj} (hg : h.get b = some (o, true))
    (ho : ORel P (E.bind h.next (E.ρ b) (E.κ b)) (h.next + 1) h.next o' (some ob)) :
    Rel P w0 (E.bind h.next (E.ρ b) (E.κ b)) ((h.kill b).new o') (World.putObj w (E.ρ b) ob) ∧ Step E h (E.bind h.next (E.ρ b) (E.κ b)) ((h.kill b).new o') := by
  have hext := Env.bind_ext E h.next (E.ρ b) (E.κ b)
  have hlt := (hr.obj b o true hg).2
  have hb := hr.dom _ _ hg
  have hget : ∀ i x, ((h.kill b).new o').get i = some x → (i = h.next ∧ x = (o', true)) ∨ (i ≠ b ∧ i < h.next ∧ h.get i = some x) := by
    intro i x hi
    rw [H.get_new, H.next_kill, H.get_kill] at hi
    by_cases e : h.next = i
    · rw [if_pos e] at hi; cases hi; exact .inl ⟨e.symm, rfl⟩
    · rw [if_neg e] at hi
      by_cases e' : b = i
      · rw [if_pos e'] at hi; cases hi
      · rw [if_neg e'] at hi; exact .inr ⟨fun h => e' h.symm, hr.dom i x hi, hi⟩
  refine ⟨⟨putObj_below hr.below (hr.wr b o hg), ?_, ?_, ?_, ?_⟩, ⟨hext, by simp⟩⟩
  · intro i x hi
    rcases hget i x hi with ⟨rfl, _⟩ | ⟨_, h2, _⟩
    · simp
    · simp; omega
  · intro i o2 wr hi
    rcases hget i _ hi with ⟨rfl, h2⟩ | ⟨h1, h2, h3⟩
    · cases h2
      rw [bind_at, putObj_get _ _ _ _ hlt, if_pos rfl]
      exact ⟨ho, by simp only [World.putObj, Array.size_setIfInBounds]; exact hlt⟩
    · have hs := hr.obj i o2 wr h3
      rw [(hext i h2).1, putObj_get _ _ _ _ hlt, if_neg (fun he => h1 (hr.inj i b _ _ h3 hg (.inr rfl) he.symm))]
      exact ⟨hs.1.mono hext h2 (by simp), by simp only [World.putObj, Array.size_setIfInBounds]; exact hs.2⟩
  · intro i o2 hi
    rcases hget i _ hi with ⟨rfl, h2⟩ | ⟨h1, h2, h3⟩
    · rw [bind_at]; exact hr.wr b o hg
    · rw [(hext i h2).1]; exact hr.wr i o2 h3
  · intro i j x y hi hj hw he
    rcases hget i _ hi with ⟨rfl, _⟩ | ⟨i1, i2, i3⟩ <;> rcases hget j _ hj with ⟨rfl, _⟩ | ⟨j1, j2, j3⟩
    · rfl
    · rw [bind_at, (hext j j2).1] at he
      exact absurd (hr.inj b j _ _ hg j3 (.inl rfl) he).symm j1
    · rw [bind_at, (hext i i2).1] at he
      exact absurd (hr.inj i b _ _ i3 hg (.inr rfl) he) i1
    · rw [(hext i i2).1, (hext j j2).1] at he
      exact hr.inj i j x y i3 j3 hw he

include hT in
theorem appendI_run (hr : Rel P w0 E h w) {t tx ty' : TypeId} {s x v : IV} {h' : H} (hsu : s.under h.next) (hf : appendI T t tx s x h = some (v, h')) :
    Gives P w0 E h w (Builtin.append_ #[t, tx] ty' #[s.den E, x.den E]) v h' := by
  unfold appendI at hf
  split at hf
  · cases hf
  rename_i ty ht
  have hu := (hT _ _ ht).und
  split at hf
  case h_2 => cases hf
  rename_i e hd
  rw [hd] at hu
  split at hf
  · cases hf
  rename_i et het
  have hety := hT _ _ het
  obtain ⟨i, i1, i2, i3, i4⟩ := hety.info
  split at hf
  · cases hf
  rename_i n news hsrc
  obtain ⟨s1, s2, s3⟩ := srcI_run hT hr hsrc
  have s1' : Src P i.size tx (x.den E) n (denL E news) w := by rw [i2]; exact s1
  split at hf
  · -- nil
    split at hf
    · next hn =>
      cases hf
      subst hn
      refine Gives.same hr ?_ (by simp [IV.under])
      have hnews : denL E news = [] := by
        have : (denL E news).length = 0 := by rw [length_denL, s3]; simp
        exact List.length_eq_zero_iff.1 this
      have hcells := s1.cells
      rw [hnews] at hcells
      have hcells : (Builtin.firstCells et.size 0 (x.den E)).run P w = .ok #[] w := by simpa using hcells
      rcases s1.kind with ⟨e', hk⟩ | hk <;>
        simp [Builtin.append_, run_underlying hu, run_underlying hk, hety.run_size, s1.len, hcells, IV.den]
    · split at hf
      · next hn hc =>
        cases hf
        obtain ⟨c1, c2, c3⟩ := hc
        have hcap : Builtin.nextslicecap (0 + n) 0 * i.bytes ≤ 281474976710656 := by
          have := nextslicecap_le (0 + n) 0 (by omega)
          rw [i3]
          refine Nat.le_trans (Nat.mul_le_mul_right _ this) ?_
          rw [Nat.zero_add]; exact c2
        have hrun := run_append_grow_src (P := P) w t tx ty' e i (et.zv.den E) hu i1 (i4 E) none 0 0 [] (by simp [Builtin.firstCells]) (x.den E) n (denL E news) s1' (by omega) (by omega) hcap
        have hg := grown_new hr hety (cs := news) (len := 0) (n := n) (cap := 0) s2 (by simpa using s3) c3
        refine ⟨_, _, hrun.trans ?_, hg.1, hg.2, by simp [IV.under]⟩
        simp only [List.nil_append, Nat.zero_add, IV.den, bind_at, Cap.den, bind_κ, Nat.sub_zero]
      · cases hf
  · -- hard
    rename_i b o len c
    split at hf
    · rename_i cs e' wr hg
      split at hf
      · next hfit =>
        cases hc : (wr && Nat.ble (o + (len + n) * et.size) cs.length) with
        | false => rw [hc] at hf; cases hf
        | true =>
          rw [hc] at hf
          cases hf
          simp only [Bool.and_eq_true] at hc
          obtain ⟨rfl, c1⟩ := hc
          have c1 := Nat.le_of_ble_eq_true c1
          obtain ⟨extra, lo, hi, g1, g2, g3, g4⟩ := hr.cells hg
          rw [Nat.add_mul] at c1
          have hlen : (denL E news).length = n * et.size := by rw [length_denL, s3]
          have hsc := storeCells_run P (E.ρ b) e' lo hi (denL E news) (o + len * et.size) 0 (denL E cs ++ extra) w g1 g2 (by rw [hlen]; simp [length_denL]; omega) s1.one
          have hrun : (Builtin.append_ #[t, tx] ty' #[.slice (some ⟨E.ρ b, o, none⟩) len c, x.den E]).run P w = .ok (.slice (some ⟨E.ρ b, o, none⟩) (len + n) c)
              (World.putObj w (E.ρ b) (.cells (splice (denL E cs ++ extra) (o + len * et.size + 0) (denL E news)).toArray e' (lo, hi))) := by
            rcases s1.kind with ⟨e'', hk⟩ | hk <;>
              simp [Builtin.append_, run_underlying hu, run_underlying hk, hety.run_size, s1.len, s1.cells, hfit, Addr.add_mk, hsc]
          have hsp : splice (denL E cs ++ extra) (o + len * et.size + 0) (denL E news) = denL E (splice cs (o + len * et.size) news) ++ extra := by
            rw [Nat.add_zero, splice_append _ _ _ _ (by rw [hlen]; simp [length_denL]; omega)]
            rw [denL_eq, denL_eq, denL_eq, splice_map]
          rw [hsp] at hrun
          refine ⟨E, _, hrun.trans (by simp [IV.den, Cap.den]), hr.put hg ⟨extra, lo, hi, rfl, ?_, ?_, ?_⟩, ⟨Ext.refl _ _, Nat.le_refl _⟩, by simpa [IV.under] using hsu⟩
          · intro z hz; exact g2 z (by simpa [length_denL, splice_length] using hz)
          · refine (underL_iff _ _).2 fun z hz => ?_
            rcases mem_splice _ _ _ _ hz with hz | hz
            · exact (underL_iff _ _).1 g3 z hz
            · exact (underL_iff _ _).1 s2 z hz
          · rw [g4]; simp [length_denL, splice_length]
      · split at hf
        · next hfit hc =>
          cases hf
          obtain ⟨c1, c2, c3, c4⟩ := hc
          have hcap : Builtin.nextslicecap (len + n) c * i.bytes ≤ 281474976710656 := by
            have := nextslicecap_le (len + n) c (by omega)
            rw [i3]
            exact Nat.le_trans (Nat.mul_le_mul_right _ this) c2
          have hld := loadCells_run (hr.drew (w.drawn + 1)) hg c4
          have hrun := run_append_grow_src (P := P) w t tx ty' e i (et.zv.den E) hu i1 (i4 E) (some ⟨E.ρ b, o, none⟩) len c (denL E ((cs.drop o).take (len * et.size))) (by
            rw [i2]; exact hld) (x.den E) n (denL E news) s1' (by omega) (by omega) hcap
          have htl : ((cs.drop o).take (len * et.size)).length = len * et.size := by simp; omega
          have hgn := grown_new hr hety (cs := (cs.drop o).take (len * et.size) ++ news) (len := len) (n := n) (cap := c) (underL_append (hr.under_take hg) s2) (by rw [List.length_append, htl, s3, Nat.add_mul]) c3
          refine ⟨_, _, hrun.trans ?_, hgn.1, hgn.2, by simp [IV.under]⟩
          simp only [IV.den, bind_at, Cap.den, bind_κ, Nat.sub_zero, denL_append]
        · cases hf
    · cases hf
  · -- soft
    rename_i b len
    split at hf
    · rename_i cs e' hg
      split at hf
      · next hc =>
        cases hf
        obtain ⟨rfl, c0, c1, c2, c3, c4⟩ := hc
        obtain ⟨extra, lo, hi, g1, g2, g3, g4⟩ := hr.cells hg
        rw [hety.cellsOf] at g4
        have hκ : len ≤ E.κ b := by
          have : len * et.size ≤ E.κ b * et.size := by rw [g4]; simp [length_denL]; omega
          exact Nat.le_of_mul_le_mul_right this c0
        have hu2 : underL h.next (cs ++ news) := underL_append g3 s2
        have hl2 : (cs ++ news).length = (len + n) * et.size := by rw [List.length_append, c1, s3, Nat.add_mul]
        by_cases hfit : len + n ≤ E.κ b
        · -- there is room: the block goes on under a new name
          have hroom : (len + n) * et.size ≤ (denL E cs ++ extra).length := by rw [← g4]; exact Nat.mul_le_mul_right _ hfit
          have hlen : (denL E news).length = n * et.size := by rw [length_denL, s3]
          rw [Nat.add_mul] at hroom
          have hsc := storeCells_run P (E.ρ b) e' lo hi (denL E news) (0 + len * et.size) 0 (denL E cs ++ extra) w g1 g2 (by rw [hlen]; omega) s1.one
          have hsc' : (storeCells { block := E.ρ b, off := len * et.size } (denL E news)).run P w = .ok () (World.putObj w (E.ρ b) (.cells (splice (denL E cs ++ extra) (len * et.size) (denL E news)).toArray e' (lo, hi))) := by
            simpa using hsc
          have hrun : (Builtin.append_ #[t, tx] ty' #[.slice (some ⟨E.ρ b, 0, none⟩) len (E.κ b), x.den E]).run P w = .ok (.slice (some ⟨E.ρ b, 0, none⟩) (len + n) (E.κ b))
              (World.putObj w (E.ρ b) (.cells (splice (denL E cs ++ extra) (len * et.size) (denL E news)).toArray e' (lo, hi))) := by
            rcases s1.kind with ⟨e'', hk⟩ | hk <;>
              simp [Builtin.append_, run_underlying hu, run_underlying hk, hety.run_size, s1.len, s1.cells, hfit, Addr.add_mk, hsc']
          have hcl : (denL E cs).length = len * et.size := by rw [length_denL, c1]
          have hsp : splice (denL E cs ++ extra) (len * et.size) (denL E news) = denL E (cs ++ news) ++ extra.drop (n * et.size) := by
            rw [denL_append, ← hcl, splice_end _ _ _ (by rw [hlen]; rw [List.length_append, hcl] at hroom; omega), hlen]
          rw [hsp] at hrun
          have hext := Env.bind_ext E h.next (E.ρ b) (E.κ b)
          have hmv := hr.move hg (o' := .cells (cs ++ news) e') (ob := .cells (denL E (cs ++ news) ++ extra.drop (n * et.size)).toArray e' (lo, hi)) ⟨extra.drop (n * et.size), lo, hi, by rw [denL_ext hext _ hu2], by
              rw [denL_ext hext _ hu2]
              intro z hz
              refine g2 z ?_
              rw [denL_append] at hz
              simp only [List.length_append, hlen, List.length_drop] at hz ⊢
              rw [List.length_append, hcl] at hroom
              omega, underL_mono (by omega) _ hu2, by
              rw [bind_κ, hety.cellsOf, g4, denL_ext hext _ hu2, denL_append]
              simp only [List.length_append, hlen, List.length_drop]
              rw [List.length_append, hcl] at hroom
              omega⟩
          refine ⟨_, _, hrun.trans ?_, hmv.1, hmv.2, by simp [IV.under]⟩
          simp only [IV.den, Cap.den, Nat.sub_zero, bind_at, bind_κ]
        · -- there is none
          have hcap : Builtin.nextslicecap (len + n) (E.κ b) * i.bytes ≤ 281474976710656 := by
            have := nextslicecap_le (len + n) (E.κ b) (by omega)
            rw [i3]
            exact Nat.le_trans (Nat.mul_le_mul_right _ this) c3
          have hld := loadCells_run (P := P) (hr.drew (w.drawn + 1)) hg (o := 0) (n := len * et.size) (by omega)
          rw [List.drop_zero, ← c1, List.take_length] at hld
          have hrun := run_append_grow_src (P := P) w t tx ty' e' i (et.zv.den E) hu i1 (i4 E) (some ⟨E.ρ b, 0, none⟩) len (E.κ b) (denL E cs) (by
            rw [i2, Builtin.firstCells, ← c1]; exact hld) (x.den E) n (denL E news) s1' (by omega) (by omega) hcap
          have hgn := grown_new (hr.kill b) hety (cs := cs ++ news) (len := len) (n := n) (cap := E.κ b) hu2 hl2 c4
          refine ⟨_, _, ?_, hgn.1, ⟨hgn.2.ext, hgn.2.le⟩, by simp [IV.under]⟩
          simp only [IV.den, Cap.den, Nat.sub_zero] at hrun ⊢
          rw [hrun]
          simp only [H.next_kill, bind_at, bind_κ, denL_append]
      · cases hf
    · cases hf
  · cases hf

end
end Sx
