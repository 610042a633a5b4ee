/- What the law CellBack needs of sectors: what was sealed opens so; a byte that is another one is told; what opens is sealed so. -/
import Derived.Test.YtoimbaocmeolgaaDoorCLawB
namespace Go.Proofs.YtoimbaocmeolgaaDoor
open Go Sx Go.RowKit

theorem sealed_length (k : Nat) {b : List UInt8} (h : b.length ≤ 240) : (sealed k b).length = 256 := by rw [sealed, List.length_append, pre_length k h, be_length]
theorem sealed_take (k : Nat) {b : List UInt8} (h : b.length ≤ 240) : (sealed k b).take 252 = pre k b := by
  rw [sealed, List.take_append_of_le_length (by rw [pre_length k h]; exact Nat.le_refl _), List.take_of_length_le (by rw [pre_length k h]; exact Nat.le_refl _)]
theorem sealed_drop (k : Nat) {b : List UInt8} (h : b.length ≤ 240) : (sealed k b).drop 252 = be (ad (pre k b)) 4 := by
  have := pre_length k h
  rw [sealed, List.drop_append, List.drop_eq_nil_of_le (by omega), this]
  rfl

/-- M1: what was sealed opens as it was. -/
theorem back_opens {k : Nat} {b : List UInt8} (hk : 0 < k ∧ k < 256) (h : b.length ≤ 240) : Opens (sealed k b) k b := by
  obtain ⟨d0, g0, hs, _⟩ := good_of (sealed_length k h) 0
  have hN : d0.N = ad (d0.s.take 252) := by
    refine be_inj g0.Nlt (ad_lt _) ?_
    rw [g0.beN, hs, sealed_drop k h, sealed_take k h]
  have e0 : (sealed k b).getD 0 0 = UInt8.ofNat k := rfl
  have e1 : (sealed k b).getD 1 0 = UInt8.ofNat b.length := rfl
  have hk' : d0.k = k := by rw [g0.k, hs, e0, UInt8.toNat_ofNat']; exact Nat.mod_eq_of_lt hk.2
  have hn' : d0.n = b.length := by rw [g0.n, hs, e1, UInt8.toNat_ofNat']; exact Nat.mod_eq_of_lt (by omega)
  have hz : d0.z = List.replicate (250 - b.length) 0 := by
    rw [g0.z, hs, sealed_take k h, hn', pre, List.append_assoc, ← List.drop_drop]
    simp
  have hbody : d0.body = b := by
    rw [g0.body, hs, hn', sealed, pre]
    rw [show 2 + b.length = b.length + 1 + 1 by omega]
    simp
  have gj : Good { d0 with j := d0.z.length } := ⟨g0.len, g0.tail, g0.N, g0.k, g0.n, g0.z, g0.body⟩
  have := pF (d := { d0 with j := d0.z.length }) gj hN (by show 0 < d0.k; omega) (by show d0.n ≤ 240; omega) rfl (fun j hj => by
    show d0.z.getD j 0 = 0
    have hj : j < d0.z.length := hj
    rw [hz] at hj ⊢
    rw [List.getD_eq_getElem?_getD, List.getElem?_eq_getElem hj]
    simp)
  have h2 : Opens d0.s d0.k d0.body := this
  rw [hs, hk', hbody] at h2
  exact h2

/-- M2: a byte that is another one is told. -/
theorem lo_set (s : List UInt8) (i : Nat) (c : UInt8) (hi : i < s.length) : ∀ n, lo (s.set i c) n + (if i < n then (s.getD i 0).toNat else 0) = lo s n + (if i < n then c.toNat else 0)
  | 0 => rfl
  | n + 1 => by
    have ih := lo_set s i c hi n
    have hd : (s.set i c).getD n 0 = if i = n then c else s.getD n 0 := by
      rw [List.getD_eq_getElem?_getD, List.getElem?_set]
      by_cases e : i = n
      · subst e; rw [if_pos rfl, if_pos rfl, if_pos hi]; rfl
      · rw [if_neg e, if_neg e, List.getD_eq_getElem?_getD]
    simp only [lo, hd]
    rcases Nat.lt_trichotomy i n with h | h | h
    · rw [if_pos h] at ih
      rw [if_pos h] at ih
      rw [if_neg (by omega), if_pos (by omega), if_pos (by omega)]
      omega
    · subst h
      rw [if_neg (by omega), if_neg (by omega)] at ih
      rw [if_pos rfl, if_pos (by omega), if_pos (by omega)]
      omega
    · rw [if_neg (by omega), if_neg (by omega)] at ih
      rw [if_neg (by omega), if_neg (by omega), if_neg (by omega)]
      omega
theorem ad_mod (s : List UInt8) : ad s % 65536 = lo s s.length % 65521 := by
  unfold ad; omega
theorem ad_set {s : List UInt8} {i : Nat} {c : UInt8} (hi : i < s.length) (hc : c ≠ s.getD i 0) : ad (s.set i c) ≠ ad s := by
  intro h
  have h1 := ad_mod (s.set i c)
  have h2 := ad_mod s
  rw [h, h2, List.length_set] at h1
  have h3 := lo_set s i c hi s.length
  rw [if_pos hi, if_pos hi] at h3
  have hne : c.toNat ≠ (s.getD i 0).toNat := fun e => hc (UInt8.toNat_inj.1 e)
  have b1 := c.toNat_lt
  have b2 := (s.getD i 0).toNat_lt
  omega

theorem turn_tells {k : Nat} {b : List UInt8} (h : b.length ≤ 240) {i : Nat} {c : UInt8} (hi : i < 256) (hc : c ≠ (sealed k b).getD i 0) : Tells ((sealed k b).set i c) 8 252 := by
  have hl := sealed_length k h
  have hpl := pre_length k h
  obtain ⟨d0, g0, hs, _⟩ := good_of (s := (sealed k b).set i c) (by rw [List.length_set, hl]) 0
  have : Tells d0.s 8 252 := by
    refine pB g0 fun hN => ?_
    have hbe : be (ad (d0.s.take 252)) 4 = d0.s.drop 252 := by rw [← hN, g0.beN]
    rw [hs] at hbe
    by_cases h252 : i < 252
    · rw [List.take_set, sealed_take k h, List.drop_set_of_lt (by omega), sealed_drop k h] at hbe
      refine ad_set (s := pre k b) (by omega) ?_ (be_inj (ad_lt _) (ad_lt _) hbe)
      intro e
      refine hc (e.trans ?_)
      rw [sealed, List.getD_eq_getElem?_getD, List.getD_eq_getElem?_getD, List.getElem?_append_left (by omega)]
    · have e1 : ((sealed k b).set i c).take 252 = (sealed k b).take 252 := by
        rw [List.take_set]
        exact List.set_eq_of_length_le (by rw [List.length_take, hl]; omega)
      rw [e1, sealed_take k h, ← sealed_drop k h] at hbe
      have h2 := congrArg (fun l => l[i - 252]?) hbe
      simp only [List.getElem?_drop] at h2
      rw [show 252 + (i - 252) = i by omega, List.getElem?_set, if_pos rfl, if_pos (by omega)] at h2
      refine hc ?_
      rw [List.getD_eq_getElem?_getD, h2]
      rfl
  rw [hs] at this
  exact this

/-- M3: what opens is sealed so; else a fault is told. -/
theorem open_seals (s : List UInt8) : (∃ code at', Tells s code at') ∨ (∃ k b, Opens s k b ∧ 0 < k ∧ k < 256 ∧ b.length ≤ 240 ∧ sealed k b = s) := by
  by_cases hl : s.length = 256
  case neg => exact .inl ⟨2, 0, pA hl⟩
  obtain ⟨d0, g0, rfl, _⟩ := good_of hl 0
  by_cases hN : d0.N = ad (d0.s.take 252)
  case neg => exact .inl ⟨8, 252, pB g0 hN⟩
  by_cases hk : d0.k = 0
  · exact .inl ⟨6, 0, pC g0 hN hk⟩
  by_cases hn : 240 < d0.n
  · exact .inl ⟨4, 1, pD g0 hN (by omega) hn⟩
  by_cases hall : ∀ j, j < d0.z.length → d0.z.getD j 0 = 0
  · refine .inr ⟨d0.k, d0.body, ?_, by omega, g0.klt, ?_, ?_⟩
    · have gj : Good { d0 with j := d0.z.length } := ⟨g0.len, g0.tail, g0.N, g0.k, g0.n, g0.z, g0.body⟩
      exact pF (d := { d0 with j := d0.z.length }) gj hN (by show 0 < d0.k; omega) (by show d0.n ≤ 240; omega) rfl hall
    · rw [g0.body, List.length_drop, List.length_take, hl]; omega
    · have hbl : d0.body.length = d0.n := by rw [g0.body, List.length_drop, List.length_take, hl]; omega
      have hzl := g0.zlen (by omega)
      have hz : d0.z = List.replicate (250 - d0.n) 0 := by
        apply List.ext_getElem?
        intro j
        by_cases hj : j < d0.z.length
        · have h1 := hall j hj
          rw [List.getD_eq_getElem?_getD, List.getElem?_eq_getElem hj] at h1
          rw [List.getElem?_eq_getElem hj, List.getElem?_replicate, if_pos (by omega)]
          exact congrArg some h1
        · rw [List.getElem?_eq_none (by omega), List.getElem?_eq_none (by rw [List.length_replicate]; omega)]
      have e2 : [UInt8.ofNat d0.k, UInt8.ofNat d0.n] = d0.s.take 2 := by
        have a0 : UInt8.ofNat d0.k = d0.s.getD 0 0 := by rw [g0.k]; simp
        have a1 : UInt8.ofNat d0.n = d0.s.getD 1 0 := by rw [g0.n]; simp
        rw [a0, a1]
        match hm : d0.s, hl with
        | x :: y :: r, _ => rfl
      have hpre : pre d0.k d0.body = d0.s.take 252 := by
        rw [pre, hbl, e2, ← hz, g0.body, g0.z]
        have p1 : d0.s.take 2 ++ (d0.s.take (2 + d0.n)).drop 2 = d0.s.take (2 + d0.n) := by
          have := List.take_append_drop 2 (d0.s.take (2 + d0.n))
          rwa [List.take_take, Nat.min_eq_left (by omega)] at this
        have p2 : d0.s.take (2 + d0.n) ++ (d0.s.take 252).drop (2 + d0.n) = d0.s.take 252 := by
          have := List.take_append_drop (2 + d0.n) (d0.s.take 252)
          rwa [List.take_take, Nat.min_eq_left (by omega)] at this
        rw [p1, p2]
      rw [sealed, hpre, ← hN, g0.beN, List.take_append_drop]
  · obtain ⟨j, hj⟩ := Classical.not_forall.1 hall
    have first : ∀ z : List UInt8, (∃ j, j < z.length ∧ z.getD j 0 ≠ 0) → ∃ j, j < z.length ∧ (∀ i, i < j → z.getD i 0 = 0) ∧ z.getD j 0 ≠ 0 := by
      intro z
      induction z with
      | nil => rintro ⟨j, h, _⟩; simp at h
      | cons a z ih =>
        rintro ⟨j, h1, h2⟩
        by_cases ha : a = 0
        · cases j with
          | zero => exact absurd ha h2
          | succ j =>
            obtain ⟨m, m1, m2, m3⟩ := ih ⟨j, by simpa using h1, h2⟩
            refine ⟨m + 1, by simp; omega, fun i hi => ?_, m3⟩
            cases i with
            | zero => exact ha
            | succ i => exact m2 i (by omega)
        · exact ⟨0, by simp, fun i hi => by omega, ha⟩
    obtain ⟨hj1, hj2⟩ := Classical.not_imp.1 hj
    obtain ⟨m, m1, m2, m3⟩ := first d0.z ⟨j, hj1, hj2⟩
    have gj : Good { d0 with j := m } := ⟨g0.len, g0.tail, g0.N, g0.k, g0.n, g0.z, g0.body⟩
    exact .inl ⟨5, _, pE (d := { d0 with j := m }) gj hN (by show 0 < d0.k; omega) (by show d0.n ≤ 240; omega) m1 m2 m3⟩
end Go.Proofs.YtoimbaocmeolgaaDoor
