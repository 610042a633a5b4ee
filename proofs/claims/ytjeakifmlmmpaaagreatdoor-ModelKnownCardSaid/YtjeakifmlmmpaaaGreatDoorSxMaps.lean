/- maps, walks over strings, interfaces. -/
import Derived.Test.YtjeakifmlmmpaaaGreatDoorSxMisc
namespace Sx
open Go Go.RowKit
set_option linter.unusedSimpArgs false

section
variable {P : Program} {T : Tr Ty} (hT : TabOK P T) {w0 : World} {E : Env} {h : H} {w : World}

/-! ### maps with plain keys -/
def plainKeyD : TypeDesc → Bool
  | .int _ | .string | .bool => true
  | _ => false

def sameI : TypeDesc → IV → IV → Option Bool
  | .int _, .int k a, .int k' b => if k = k' then some (a == b) else none
  | .string, .str a, .str b => some (a == b)
  | .bool, .bool a, .bool b => some (a == b)
  | _, _, _ => none

def findI (d : TypeDesc) (k : IV) : List (IV × IV × Nat) → Nat → Option (Option (Nat × IV))
  | [], _ => some none
  | e :: es, i =>
    match sameI d k e.1 with
    | some true => some (some (i, e.2.1))
    | some false => findI d k es (i + 1)
    | none => none

theorem sameI_run (E : Env) {d : TypeDesc} {a b : IV} {r : Bool} (h : sameI d a b = some r) : Instr.sameNow d (a.den E) (b.den E) = some r := by
  unfold sameI at h
  split at h
  · split at h <;> cases h
    next hk => simp [Instr.sameNow, IV.den, hk]
  · cases h; simp [Instr.sameNow, IV.den, beqMk]
  · cases h; simp [Instr.sameNow, IV.den]
  · cases h

theorem findI_run (E : Env) {d : TypeDesc} {k : IV} : ∀ {es : List (IV × IV × Nat)} {i : Nat} {r : Option (Nat × IV)}, findI d k es i = some r →
    Instr.findNow d (k.den E) (es.map (entryDen E)) i = some (r.map fun p => (p.1, p.2.den E))
  | [], i, r, h => by cases h; rfl
  | e :: es, i, r, h => by
    simp only [findI] at h
    simp only [List.map_cons, Instr.findNow, entryDen]
    split at h
    · next hs => rw [sameI_run E hs]; cases h; rfl
    · next hs => rw [sameI_run E hs]; exact findI_run E h
    · cases h

theorem findI_mem {d : TypeDesc} {k : IV} : ∀ {es : List (IV × IV × Nat)} {i j : Nat} {v : IV}, findI d k es i = some (some (j, v)) → ∃ e ∈ es, e.2.1 = v ∧ i ≤ j ∧ es[j - i]? = some e ∧ sameI d k e.1 = some true
  | [], i, j, v, h => by cases h
  | e :: es, i, j, v, h => by
    simp only [findI] at h
    split at h
    · next hs => cases h; exact ⟨e, by simp, rfl, Nat.le_refl _, by simp, hs⟩
    · obtain ⟨e', h1, h2, h3, h4, h5⟩ := findI_mem h
      refine ⟨e', by simp [h1], h2, by omega, ?_, h5⟩
      obtain ⟨m, hm⟩ : ∃ m, j - i = m + 1 := ⟨j - i - 1, by omega⟩
      rw [hm, List.getElem?_cons_succ, show m = j - (i + 1) by omega]
      exact h4
    · cases h

theorem checkKey_run {d : TypeDesc} (hp : plainKeyD d = true) {t : TypeId} (hu : P.underlying t = some d) (em : Bool) (n : Nat) (v : Value) (w : World) :
    (Instr.checkKey em (n + 1) t v).run P w = .ok () w := by
  unfold Instr.checkKey
  simp only [Sem.run_bind, run_underlying hu, Result.andThen_ok]
  cases d <;> simp [plainKeyD] at hp <;> simp

def lookupI (T : Tr Ty) (t : TypeId) (x k : IV) (ok : Bool) (h : H) : Option IV :=
  match T.get t with
  | none => none
  | some ty =>
    match ty.d with
    | .map kt et =>
      match T.get kt, T.get et with
      | some kty, some ety =>
        bif plainKeyD kty.d then
          match (match x with
            | .nilmap => some []
            | .map b => match h.get b with
              | some (.map es _, _) => some es
              | _ => none
            | _ => none : Option (List (IV × IV × Nat))) with
          | none => none
          | some es =>
            match findI kty.d k es 0 with
            | some (some (_, v)) => some (bif ok then .tup [v, .bool true] else v)
            | some none => some (bif ok then .tup [ety.zv, .bool false] else ety.zv)
            | none => none
        else none
      | _, _ => none
    | _ => none

theorem Rel.map (hr : Rel P w0 E h w) {b : Nat} {es : List (IV × IV × Nat)} {cl : Nat} {wr : Bool} (hg : h.get b = some (.map es cl, wr)) :
    (getObj (E.ρ b)).run P w = .ok (.map (es.map (entryDen E)).toArray cl) w ∧ ∀ e ∈ es, e.1.under h.next ∧ e.2.1.under h.next :=
  ⟨getObj_run P w _ _ (hr.obj _ _ _ hg).1.1 (by simp), (hr.obj _ _ _ hg).1.2⟩

include hT in
theorem lookupI_run (hr : Rel P w0 E h w) {t : TypeId} {x k v : IV} {ok : Bool} (hf : lookupI T t x k ok h = some v) :
    Gives P w0 E h w (Instr.lookup t (x.den E) (k.den E) ok) v h := by
  unfold lookupI at hf
  split at hf
  · cases hf
  rename_i ty ht
  have hu := (hT _ _ ht).und
  split at hf
  case h_2 => cases hf
  rename_i kt et hd
  rw [hd] at hu
  split at hf
  case h_2 => cases hf
  rename_i kty ety hk he
  have uk := (hT _ _ hk).und
  have hety := hT _ _ he
  cases hp : plainKeyD kty.d with
  | false => rw [hp] at hf; cases hf
  | true =>
    rw [hp] at hf
    simp only [cond_true] at hf
    split at hf
    · cases hf
    rename_i es hes
    have hx : (x = .nilmap ∧ es = []) ∨ ∃ b cl wr, x = .map b ∧ h.get b = some (.map es cl, wr) := by
      split at hes
      · cases hes; exact .inl ⟨rfl, rfl⟩
      · rename_i b
        split at hes
        · rename_i es' cl wr hg
          cases hes
          exact .inr ⟨b, cl, wr, rfl, hg⟩
        · cases hes
      · cases hes
    have hall : ∀ e ∈ es, e.1.under h.next ∧ e.2.1.under h.next := by
      rcases hx with ⟨rfl, rfl⟩ | ⟨b, cl, wr, rfl, hg⟩
      · simp
      · exact (hr.map hg).2
    have hck := fun em => checkKey_run hp uk em 9999 (k.den E) w
    have hrun : ∀ (r : Option (Nat × IV)), findI kty.d k es 0 = some r → (Instr.findKey kt (k.den E) (es.map (entryDen E))).run P w = .ok (r.map fun p => (p.1, p.2.den E)) w := fun r hr' => by
      have := findI_run E hr'
      simp [Instr.findKey, run_underlying uk, this]
    have key : ∀ (r : Option (Nat × IV)) (z : Value × Bool), findI kty.d k es 0 = some r → ((match r.map fun p => (p.1, p.2.den E) with
        | some (_, v) => pure (v, true)
        | none => do pure (← zeroValue et, false) : Sem (Value × Bool)).run P w = .ok z w) →
        (Instr.lookup t (x.den E) (k.den E) ok).run P w = .ok (if ok then .tuple #[z.1, .bool z.2] else z.1) w := fun r z hr' hz => by
      rcases hx with ⟨rfl, rfl⟩ | ⟨b, cl, wr, rfl, hg⟩
      · have h1 := hrun r hr'
        simp only [List.map_nil] at h1
        unfold Instr.lookup
        simp only [Sem.run_bind, run_underlying hu, Result.andThen_ok, IV.den, Sem.run_pure, hck, h1]
        cases r with
        | none => simp only [Option.map_none, Sem.run_bind, hety.run_zero E, Result.andThen_ok, Sem.run_pure] at hz ⊢; cases hz; rfl
        | some p => simp only [Option.map_some, Sem.run_bind, Sem.run_pure, Result.andThen_ok] at hz ⊢; cases hz; rfl
      · have h1 := hrun r hr'
        unfold Instr.lookup
        simp only [Sem.run_bind, run_underlying hu, Result.andThen_ok, IV.den, (hr.map hg).1, Sem.run_pure, hck, h1]
        cases r with
        | none => simp only [Option.map_none, Sem.run_bind, hety.run_zero E, Result.andThen_ok, Sem.run_pure] at hz ⊢; cases hz; rfl
        | some p => simp only [Option.map_some, Sem.run_bind, Sem.run_pure, Result.andThen_ok] at hz ⊢; cases hz; rfl
    split at hf
    · rename_i j v' hfi
      cases hf
      obtain ⟨e, e1, e2, _⟩ := findI_mem hfi
      have hv := (hall e e1).2
      rw [e2] at hv
      refine Gives.same hr ?_ (by cases ok <;> simp [IV.under, underL, hv])
      refine (key _ (v'.den E, true) hfi (by simp)).trans ?_
      cases ok <;> simp [IV.den, denL]
    · rename_i hfi
      cases hf
      have hv := IV.under_of_flat h.next _ hety.flat
      refine Gives.same hr ?_ (by cases ok <;> simp [IV.under, underL, hv])
      refine (key _ (ety.zv.den E, false) hfi (by simp [hety.run_zero E])).trans ?_
      cases ok <;> simp [IV.den, denL]
    · cases hf

def mapUpdateI (T : Tr Ty) (t : TypeId) (m k v : IV) (h : H) : Option H :=
  match T.get t, m with
  | some ty, .map b =>
    match ty.d, h.get b with
    | .map kt _, some (.map es cl, true) =>
      match T.get kt with
      | some kty =>
        bif plainKeyD kty.d then
          match findI kty.d k es 0 with
          | some (some (i, _)) => some (h.put b (.map (es.modify i fun e => (k, v, e.2.2)) cl))
          | some none => some (h.put b (.map (es ++ [(k, v, cl)]) (cl + 1)))
          | none => none
        else none
      | none => none
    | _, _ => none
  | _, _ => none

theorem sameBits_of (E : Env) {d : TypeDesc} {a b : IV} (h : sameI d a b = some true) (n : Nat) : Instr.sameBits n (b.den E) (a.den E) = true ∧ b.den E = a.den E := by
  unfold sameI at h
  split at h
  · split at h
    · next hk =>
      simp only [Option.some.injEq, beq_iff_eq] at h
      subst hk h
      simp [Instr.sameBits, IV.den]
    · cases h
  · next x y =>
    simp only [Option.some.injEq, beq_iff_eq] at h
    subst h
    refine ⟨?_, rfl⟩
    simp [Instr.sameBits, IV.den, beqMk]
  · next x y =>
    simp only [Option.some.injEq, beq_iff_eq] at h
    subst h
    simp [Instr.sameBits, IV.den]
  · cases h

theorem entryDen_mk (E : Env) (a b : IV) (n : Nat) : entryDen E (a, b, n) = ⟨a.den E, b.den E, n⟩ := rfl

include hT in
theorem mapUpdateI_run (hr : Rel P w0 E h w) {t : TypeId} {m k v : IV} {h' : H} (hk : k.under h.next) (hv : v.under h.next) (hf : mapUpdateI T t m k v h = some h') :
    ∃ w', (Instr.mapUpdate t (m.den E) (k.den E) (v.den E)).run P w = .ok () w' ∧ Rel P w0 E h' w' ∧ Step E h E h' := by
  unfold mapUpdateI at hf
  split at hf
  case h_2 => cases hf
  rename_i ty b ht
  have hu := (hT _ _ ht).und
  split at hf
  case h_2 => cases hf
  rename_i kt et es cl hd hg
  rw [hd] at hu
  split at hf
  case h_2 => cases hf
  rename_i kty hkt
  have uk := (hT _ _ hkt).und
  cases hp : plainKeyD kty.d with
  | false => rw [hp] at hf; cases hf
  | true =>
    rw [hp] at hf
    simp only [cond_true] at hf
    have hck := fun em => checkKey_run hp uk em 9999 (k.den E) w
    have hob := (hr.obj _ _ _ hg).1
    obtain ⟨ho1, ho2⟩ := hob
    have hset : ∀ o : Obj, (setObj (E.ρ b) o).run P w = .ok () (World.putObj w (E.ρ b) o) := fun o => by
      simp [setObj, Sem.run, ho1, World.putObj]
    have hfind : ∀ r, findI kty.d k es 0 = some r → (Instr.findKey kt (k.den E) (es.map (entryDen E))).run P w = .ok (r.map fun p => (p.1, p.2.den E)) w := fun r hr' => by
      have := findI_run E hr'
      simp [Instr.findKey, run_underlying uk, this]
    split at hf
    · rename_i i v0 hfi
      cases hf
      obtain ⟨e, e1, e2, e3, e4, e5⟩ := findI_mem hfi
      rw [Nat.sub_zero] at e4
      have hsb := sameBits_of E e5 10000
      refine ⟨_, ?_, hr.put hg ⟨rfl, ?_⟩, ⟨Ext.refl _ _, Nat.le_refl _⟩⟩
      · unfold Instr.mapUpdate
        simp only [Sem.run_bind, run_underlying hu, Result.andThen_ok, IV.den, (hr.map hg).1, hck, hfind _ hfi, Option.map_some]
        have hkey : (((es.map (entryDen E)).toArray[i]?).map (·.key)).getD (k.den E) = e.1.den E := by
          simp [e4, entryDen]
        rw [hkey]
        have hst : (Instr.keyThatStays (e.1.den E) (k.den E)).run P w = .ok (k.den E) w := by
          unfold Instr.keyThatStays
          rw [hsb.1]; simp
        simp only [hst, Result.andThen_ok]
        rw [hset]
        congr 3
        apply Array.ext'
        simp only [Array.toList_modify]
        apply List.ext_getElem?
        intro j
        rw [List.getElem?_modify, List.getElem?_map, List.getElem?_map, List.getElem?_modify]
        by_cases hj : i = j
        · subst hj
          simp [e4, entryDen]
        · simp [hj]
      · intro e' he'
        obtain ⟨j, hj⟩ := List.mem_iff_getElem?.1 he'
        rw [List.getElem?_modify] at hj
        cases hx : es[j]? with
        | none => rw [hx] at hj; simp at hj
        | some y =>
          rw [hx] at hj
          have hy := ho2 y (List.mem_of_getElem? hx)
          by_cases hij : i = j
          · simp [hij] at hj; subst hj; exact ⟨hk, hv⟩
          · simp [hij] at hj; subst hj; exact hy
    · rename_i hfi
      cases hf
      refine ⟨_, ?_, hr.put hg ⟨rfl, ?_⟩, ⟨Ext.refl _ _, Nat.le_refl _⟩⟩
      · unfold Instr.mapUpdate
        simp only [Sem.run_bind, run_underlying hu, Result.andThen_ok, IV.den, (hr.map hg).1, hck, hfind _ hfi, Option.map_none]
        rw [hset]
        congr 3
        apply Array.ext'
        simp [entryDen]
      · intro e' he'
        rcases List.mem_append.1 he' with he' | he'
        · exact ho2 e' he'
        · simp at he'; subst he'; exact ⟨hk, hv⟩
    · cases hf

def makeMapI (T : Tr Ty) (t : TypeId) (r : Option IV) (h : H) : Option (IV × H) :=
  match T.get t, r with
  | some _, none => some (.map h.next, h.new (.map [] 0))
  | some ty, some (.int _ _) => match ty.d with
    | .map _ _ => some (.map h.next, h.new (.map [] 0))
    | _ => none
  | _, _ => none

include hT in
theorem makeMapI_run (hr : Rel P w0 E h w) {t : TypeId} {r : Option IV} {v : IV} {h' : H} (hf : makeMapI T t r h = some (v, h')) :
    Gives P w0 E h w (Instr.makeMap t (r.map (IV.den E))) v h' := by
  have key : v = .map h.next ∧ h' = h.new (.map [] 0) ∧ (Instr.makeMap t (r.map (IV.den E))).run P w = .ok (.map (some w.heap.size)) (w.alloc (.map #[] 0)) := by
    unfold makeMapI at hf
    split at hf
    · cases hf; exact ⟨rfl, rfl, by simp [Instr.makeMap]⟩
    · rename_i ty k n ht
      have hu := (hT _ _ ht).und
      split at hf
      · rename_i hd
        rw [hd] at hu
        cases hf
        exact ⟨rfl, rfl, by simp [Instr.makeMap, run_underlying hu, IV.den, asInt, asIntOf]⟩
      · cases hf
    · cases hf
  obtain ⟨rfl, rfl, hrun⟩ := key
  have hn := hr.new (o := .map [] 0) (ob := .map #[] 0) 0 (w' := w.alloc (.map #[] 0)) rfl ⟨rfl, by simp⟩
  exact ⟨_, _, hrun.trans (by simp [IV.den, bind_at]), hn.1, hn.2, by simp [IV.under]⟩

/-! ### walks over strings and maps -/
def rangeI (T : Tr Ty) (t : TypeId) (x : IV) (h : H) : Option (IV × H) :=
  match T.get t, x with
  | some ty, .str s => match ty.d with
    | .string => some (.ptr h.next 0, h.new (.strIter s 0))
    | _ => none
  | some ty, .map m => match ty.d with
    | .map _ _ => match h.get m with
      | some (.map _ clock, _) => some (.ptr h.next 0, h.new (.mapIter m clock [] clock))
      | _ => none
    | _ => none
  | _, _ => none

include hT in
theorem rangeI_run (hr : Rel P w0 E h w) {t : TypeId} {x v : IV} {h' : H} (hf : rangeI T t x h = some (v, h')) : Gives P w0 E h w (Instr.range t (x.den E)) v h' := by
  unfold rangeI at hf
  split at hf
  · rename_i ty s ht
    have hu := (hT _ _ ht).und
    split at hf
    case h_2 => cases hf
    rename_i hd
    rw [hd] at hu
    cases hf
    have hn := hr.new (o := .strIter s 0) (ob := .stringIter ⟨s.toArray⟩ 0) 0 (w' := w.alloc (.stringIter ⟨s.toArray⟩ 0)) rfl rfl
    exact ⟨_, _, by simp [Instr.range, run_underlying hu, IV.den, bind_at], hn.1, hn.2, by simp [IV.under]⟩
  · rename_i ty m ht
    have hu := (hT _ _ ht).und
    split at hf
    case h_2 => cases hf
    rename_i kt et hd
    rw [hd] at hu
    split at hf
    case h_2 => cases hf
    rename_i es clock wr hg
    cases hf
    have hlt := hr.dom _ _ hg
    have hm := (Env.bind_ext E h.next w.heap.size 0 m hlt).1
    have hn := hr.new (o := .mapIter m clock [] clock) (ob := .mapIter (some (E.ρ m)) clock #[] clock) 0 (w' := w.alloc (.mapIter (some (E.ρ m)) clock #[] clock)) rfl
      ⟨by rw [hm], Nat.lt_succ_of_lt hlt⟩
    refine ⟨_, _, ?_, hn.1, hn.2, by simp [IV.under]⟩
    simp only [Instr.range, Sem.run_bind, run_underlying hu, IV.den, Result.andThen_ok, (hr.map hg).1, Sem.run_pure]
    simp [bind_at]
  · cases hf

abbrev Ent := IV × IV × Nat

def leftI (seen : List Nat) (es : List Ent) : List Ent := es.filter fun e => !seen.contains e.2.2
def goneI (es : List Ent) (seen : List Nat) (last : Nat) : Bool := !seen.isEmpty && !es.isEmpty && es.all fun e => Nat.ble last e.2.2
def oldI (since : Nat) (l : List Ent) : List Ent := l.filter fun e => Nat.blt e.2.2 since
def newI (since : Nat) (l : List Ent) : List Ent := l.filter fun e => Nat.ble since e.2.2

/-- The next entry of a map, where there is no choice. -/
def nextMI (b m since : Nat) (seen : List Nat) (last : Nat) (h : H) : Option (IV × H) :=
  match h.get m with
  | some (.map es clock, _) => bif goneI es seen last then none else
    match newI since (leftI seen es), oldI since (leftI seen es) with
    | [], [] => some (.tup [.bool false], h)
    | [], [e] => some (.tup [.bool true, e.1, e.2.1], h.put b (.mapIter m since (seen ++ [e.2.2]) clock))
    | _, _ => none
  | _ => none

def nextI (it : IV) (isString : Bool) (h : H) : Option (IV × H) :=
  match it, isString with
  | .ptr b 0, true => match h.get b with
    | some (.strIter s pos, true) =>
      if pos < s.length then
        some (.tup [.bool true, .int .i64 pos, .int .i32 (Utf8.decode ⟨s.toArray⟩ pos).1], h.put b (.strIter s (pos + (Utf8.decode ⟨s.toArray⟩ pos).2)))
      else some (.tup [.bool false], h)
    | _ => none
  | .ptr b 0, false => match h.get b with
    | some (.mapIter m since seen last, true) => nextMI b m since seen last h
    | _ => none
  | _, _ => none

theorem filter_den (E : Env) (p : MapEntry → Bool) (q : Ent → Bool) (es : List Ent) (hpq : ∀ e, p (entryDen E e) = q e) : (es.map (entryDen E)).toArray.filter p = ((es.filter q).map (entryDen E)).toArray := by
  apply Array.ext'
  simp only [Array.toList_filter, List.toList_toArray, List.filter_map]
  congr 1
  exact List.filter_congr fun e _ => hpq e

/-- What 'next' asks of a map, in the ideal entries' words. -/
theorem nextM_run (hr : Rel P w0 E h w) {b m since last : Nat} {seen : List Nat} {es : List Ent} {clock : Nat} {wr wr' : Bool} (hb : h.get b = some (.mapIter m since seen last, wr')) (hm : h.get m = some (.map es clock, wr)) (hg : goneI es seen last = false) (ty' : TypeId) :
    (Instr.next (IV.den E (.ptr b 0)) false ty').run P w = Sem.run P (do
      match ((if (oldI since (leftI seen es)).isEmpty then #[none] else #[]) ++ ((oldI since (leftI seen es) ++ newI since (leftI seen es)).map fun e => some (entryDen E e)).toArray)[← choose (.mapNext ((if (oldI since (leftI seen es)).isEmpty then #[none] else #[]) ++ ((oldI since (leftI seen es) ++ newI since (leftI seen es)).map fun e => some (entryDen E e)).toArray).size)]? with
      | some (some e) =>
        setObj (E.ρ b) (.mapIter (some (E.ρ m)) since (seen.toArray.push e.born) clock)
        pure (.tuple #[.bool true, e.key, e.val])
      | some none => pure (.tuple #[.bool false])
      | none => stuck "Next: no such candidate") w := by
  have ho : w.heap[E.ρ b]? = some (.mapIter (some (E.ρ m)) since seen.toArray last) := ((hr.obj _ _ _ hb).1).1
  have hgo := getObj_run P w _ _ ho (by simp)
  have hmo := (hr.map hm).1
  have e1 : (es.map (entryDen E)).toArray.filter (fun e => !seen.toArray.contains e.born) = ((leftI seen es).map (entryDen E)).toArray :=
    filter_den E _ _ es fun e => by simp [entryDen]
  have e2 : ((leftI seen es).map (entryDen E)).toArray.filter (fun e => e.born < since) = ((oldI since (leftI seen es)).map (entryDen E)).toArray :=
    filter_den E _ _ _ fun e => by
      simp only [entryDen]
      rw [Bool.eq_iff_iff, Nat.blt_eq]
      exact decide_eq_true_iff
  have e3 : ((leftI seen es).map (entryDen E)).toArray.filter (fun e => e.born ≥ since) = ((newI since (leftI seen es)).map (entryDen E)).toArray :=
    filter_den E _ _ _ fun e => by
      simp only [entryDen]
      rw [Bool.eq_iff_iff, Nat.ble_eq]
      exact decide_eq_true_iff
  have e0 : (!seen.toArray.isEmpty && !(es.map (entryDen E)).toArray.isEmpty && (es.map (entryDen E)).toArray.all (fun e => e.born ≥ last)) = false := by
    rw [← hg]
    unfold goneI
    congr 1
    · congr 1
      · cases seen <;> simp
      · cases es <;> simp
    · simp only [List.all_toArray, List.all_map]
      refine congrArg (List.all es) (funext fun e => ?_)
      simp only [Function.comp, entryDen]
      rw [Bool.eq_iff_iff, Nat.ble_eq]
      exact decide_eq_true_iff
  unfold Instr.next
  simp only [IV.den, Sem.run_bind, hgo, Result.andThen_ok, hmo, e0, e1, e2, e3, Bool.false_eq_true, if_false, Sem.run_pure]
  have e4 : (((oldI since (leftI seen es)).map (entryDen E)).toArray ++ ((newI since (leftI seen es)).map (entryDen E)).toArray).map some = ((oldI since (leftI seen es) ++ newI since (leftI seen es)).map fun e => some (entryDen E e)).toArray := by
    apply Array.ext'; simp [Function.comp_def]
  have e5 : ((oldI since (leftI seen es)).map (entryDen E)).toArray.isEmpty = (oldI since (leftI seen es)).isEmpty := by
    cases oldI since (leftI seen es) <;> simp
  rw [e4, e5]
  rfl

theorem choose_one (P : Program) (w : World) : (choose (.mapNext 1)).run P w = .ok 0 w := by
  simp [choose, Sem.run, Question.forced]

theorem nextMI_run (hr : Rel P w0 E h w) {b m since last : Nat} {seen : List Nat} (hb : h.get b = some (.mapIter m since seen last, true)) {v : IV} {ty' : TypeId} {h' : H} (hf : nextMI b m since seen last h = some (v, h')) :
    Gives P w0 E h w (Instr.next (IV.den E (.ptr b 0)) false ty') v h' := by
  unfold nextMI at hf
  split at hf
  case h_2 => cases hf
  rename_i es clock wr hm
  cases hg : goneI es seen last with
  | true => rw [hg] at hf; cases hf
  | false =>
    rw [hg] at hf
    simp only [cond_false] at hf
    have hrun := nextM_run hr hb hm hg ty'
    have ho : w.heap[E.ρ b]? = some (.mapIter (some (E.ρ m)) since seen.toArray last) := ((hr.obj _ _ _ hb).1).1
    split at hf
    · rename_i h1 h2
      cases hf
      refine Gives.same hr ?_ (by simp [IV.under, underL])
      rw [hrun]
      simp [h1, h2, choose, Sem.run, Question.forced, IV.den, denL]
    · rename_i e h1 h2
      cases hf
      have hmem : e ∈ es := by
        have : e ∈ oldI since (leftI seen es) := by rw [h2]; simp
        exact (List.mem_filter.1 (List.mem_filter.1 this).1).1
      have hu := (hr.map hm).2 e hmem
      have hset : ∀ o : Obj, (setObj (E.ρ b) o).run P w = .ok () (World.putObj w (E.ρ b) o) := fun o => by
        simp [setObj, Sem.run, ho, World.putObj]
      refine ⟨E, World.putObj w (E.ρ b) (.mapIter (some (E.ρ m)) since (seen.toArray.push e.2.2) clock), ?_, hr.put hb ⟨by simp, hr.dom _ _ hm⟩, ⟨Ext.refl _ _, Nat.le_refl _⟩, by simp [IV.under, underL, hu]⟩
      rw [hrun]
      simp [h1, h2, choose, Sem.run, Question.forced, hset, ho, World.putObj, setObj, entryDen, IV.den, denL]
    · cases hf

theorem nextI_run (hr : Rel P w0 E h w) {it v : IV} {isString : Bool} {ty' : TypeId} {h' : H} (hf : nextI it isString h = some (v, h')) :
    Gives P w0 E h w (Instr.next (it.den E) isString ty') v h' := by
  unfold nextI at hf
  split at hf
  · rename_i b
    split at hf
    case h_2 => cases hf
    rename_i s pos hg
    have ho : w.heap[E.ρ b]? = some (.stringIter ⟨s.toArray⟩ pos) := (hr.obj _ _ _ hg).1
    have hgo := getObj_run P w _ _ ho (by simp)
    have hsz : (ByteArray.mk s.toArray).size = s.length := by simp [ByteArray.size]
    have hset : ∀ o : Obj, (setObj (E.ρ b) o).run P w = .ok () (World.putObj w (E.ρ b) o) := fun o => by
      simp [setObj, Sem.run, ho, World.putObj]
    split at hf
    · next hlt =>
      cases hf
      refine ⟨E, _, ?_, hr.put hg rfl, ⟨Ext.refl _ _, Nat.le_refl _⟩, by simp [IV.under, underL]⟩
      unfold Instr.next
      simp only [IV.den, Sem.run_bind, hgo, Result.andThen_ok, hsz, hlt, if_true, hset, Sem.run_pure, denL, goInt]
    · next hlt =>
      cases hf
      refine Gives.same hr ?_ (by simp [IV.under, underL])
      unfold Instr.next
      simp only [IV.den, Sem.run_bind, hgo, Result.andThen_ok, hsz, hlt, if_false, Sem.run_pure, denL]
  · rename_i b
    split at hf
    case h_2 => cases hf
    rename_i m since seen last hg
    exact nextMI_run hr hg hf
  · cases hf

/-- The entry to which the last step came. -/
def entryI (it : IV) (h : H) : Option IV :=
  match it with
  | .ptr b 0 => match h.get b with
    | some (.mapIter m _ seen last, _) => match h.get m, seen.getLast? with
      | some (.map es clock, _), some stamp => bif Nat.beq clock last then (es.find? fun e => Nat.beq e.2.2 stamp).map fun e => .tup [e.1, e.2.1] else none
      | _, _ => none
    | _ => none
  | _ => none

theorem entryI_run (hr : Rel P w0 E h w) {it v : IV} (hf : entryI it h = some v) : Gives P w0 E h w (Instr.entry (it.den E)) v h := by
  unfold entryI at hf
  split at hf
  case h_2 => cases hf
  rename_i b
  split at hf
  case h_2 => cases hf
  rename_i m since seen last wr hb
  split at hf
  case h_2 => cases hf
  rename_i es clock wr' stamp hm hs
  cases hc : Nat.beq clock last with
  | false => rw [hc] at hf; cases hf
  | true =>
    rw [hc] at hf
    simp only [cond_true] at hf
    cases he : es.find? fun e => Nat.beq e.2.2 stamp with
    | none => rw [he] at hf; cases hf
    | some e =>
      rw [he] at hf
      cases hf
      have hu := (hr.map hm).2 e (List.mem_of_find?_eq_some he)
      have ho : w.heap[E.ρ b]? = some (.mapIter (some (E.ρ m)) since seen.toArray last) := ((hr.obj _ _ _ hb).1).1
      refine Gives.same hr ?_ (by simp [IV.under, underL, hu])
      have hcl : clock = last := Nat.eq_of_beq_eq_true hc
      have hf2 : (es.map (entryDen E)).find? (fun e => e.born == stamp) = some (entryDen E e) := by
        rw [List.find?_map]
        have : ((fun e : MapEntry => e.born == stamp) ∘ entryDen E) = fun e : Ent => Nat.beq e.2.2 stamp := by
          funext e
          simp only [Function.comp, entryDen]
          rw [Bool.eq_iff_iff, Nat.beq_eq]
          exact beq_iff_eq
        rw [this, he]
        rfl
      unfold Instr.entry
      simp only [IV.den, Sem.run_bind, getObj_run P w _ _ ho (by simp), Result.andThen_ok, (hr.map hm).1]
      simp [hs, hcl, hf2, (hr.map hm).1, entryDen, denL]

/-! ### clear and delete -/
def clearI (x : IV) (h : H) : Option H :=
  match x with
  | .map b => match h.get b with
    | some (.map _ clock, true) => some (h.put b (.map [] clock))
    | _ => none
  | _ => none

def deleteI (T : Tr Ty) (t : TypeId) (x k : IV) (h : H) : Option H :=
  match T.get t with
  | none => none
  | some ty =>
    match ty.d with
    | .map kt _ =>
      match T.get kt, x with
      | some kty, .map b => bif plainKeyD kty.d then
          match h.get b with
          | some (.map es clock, true) => match findI kty.d k es 0 with
            | some (some (i, _)) => some (h.put b (.map (es.eraseIdx i) clock))
            | some none => some (h.put b (.map es clock))
            | none => none
          | _ => none
        else none
      | _, _ => none
    | _ => none

theorem clearI_run (hr : Rel P w0 E h w) {x : IV} {t ty' : TypeId} {d : TypeDesc} (hu : P.underlying t = some d) {h' : H} (hf : clearI x h = some h') :
    Gives P w0 E h w (Builtin.clear_ #[t] ty' #[x.den E]) (.tup []) h' := by
  unfold clearI at hf
  split at hf
  case h_2 => cases hf
  rename_i b
  split at hf
  case h_2 => cases hf
  rename_i es clock hb
  cases hf
  have ho : w.heap[E.ρ b]? = some (.map (es.map (entryDen E)).toArray clock) := (hr.obj _ _ _ hb).1.1
  have hset : ∀ o : Obj, (setObj (E.ρ b) o).run P w = .ok () (World.putObj w (E.ρ b) o) := fun o => by
    simp [setObj, Sem.run, ho, World.putObj]
  refine ⟨E, World.putObj w (E.ρ b) (.map #[] clock), ?_, hr.put hb ⟨by simp, by simp⟩, ⟨Ext.refl _ _, Nat.le_refl _⟩, by simp [IV.under, underL]⟩
  unfold Builtin.clear_
  simp only [IV.den, denL]
  simp only [Sem.run_bind, run_underlying hu, Result.andThen_ok, (hr.map hb).1, hset, Sem.run_pure, List.getElem?_toArray, List.getElem?_cons_zero]

theorem map_eraseIdx' {α β : Type} (f : α → β) : ∀ (l : List α) (i : Nat), (l.map f).eraseIdx i = (l.eraseIdx i).map f
  | [], _ => rfl
  | _ :: _, 0 => rfl
  | a :: l, i + 1 => by simp [map_eraseIdx' f l i]

include hT in
theorem deleteI_run (hr : Rel P w0 E h w) {t t2 ty' : TypeId} {x k : IV} {h' : H} (hf : deleteI T t x k h = some h') :
    Gives P w0 E h w (Builtin.delete_ #[t, t2] ty' #[x.den E, k.den E]) (.tup []) h' := by
  unfold deleteI at hf
  split at hf
  · cases hf
  rename_i ty ht
  have hu := (hT _ _ ht).und
  split at hf
  case h_2 => cases hf
  rename_i kt et hd
  rw [hd] at hu
  split at hf
  case h_2 => cases hf
  rename_i kty b hk
  have uk := (hT _ _ hk).und
  cases hp : plainKeyD kty.d with
  | false => rw [hp] at hf; cases hf
  | true =>
    rw [hp] at hf
    simp only [cond_true] at hf
    split at hf
    case h_2 => cases hf
    rename_i es clock hb
    have ho : w.heap[E.ρ b]? = some (.map (es.map (entryDen E)).toArray clock) := (hr.obj _ _ _ hb).1.1
    have hset : ∀ o : Obj, (setObj (E.ρ b) o).run P w = .ok () (World.putObj w (E.ρ b) o) := fun o => by
      simp [setObj, Sem.run, ho, World.putObj]
    have hes := (hr.map hb).2
    have hck := fun em => checkKey_run hp uk em 9999 (k.den E) w
    have hfk : ∀ r, findI kty.d k es 0 = some r → (Instr.findKey kt (k.den E) (es.map (entryDen E))).run P w = .ok (r.map fun p => (p.1, p.2.den E)) w := fun r hr' => by
      have := findI_run E hr'
      simp [Instr.findKey, run_underlying uk, this]
    split at hf
    · rename_i i v hfi
      cases hf
      refine ⟨E, World.putObj w (E.ρ b) (.map ((es.eraseIdx i).map (entryDen E)).toArray clock), ?_, hr.put hb ⟨rfl, fun e he => hes e (List.mem_of_mem_eraseIdx he)⟩, ⟨Ext.refl _ _, Nat.le_refl _⟩, by simp [IV.under, underL]⟩
      unfold Builtin.delete_
      simp only [IV.den, denL]
      simp only [Sem.run_bind, run_underlying hu, Result.andThen_ok, (hr.map hb).1, hck, hfk _ hfi, Option.map_some, Option.map_none, hset, Sem.run_pure, List.getElem?_toArray, List.getElem?_cons_zero, List.getElem?_cons_succ]
      simp [hset, map_eraseIdx']
    · rename_i hfi
      cases hf
      refine ⟨E, World.putObj w (E.ρ b) (.map (es.map (entryDen E)).toArray clock), ?_, hr.put hb ⟨rfl, hes⟩, ⟨Ext.refl _ _, Nat.le_refl _⟩, by simp [IV.under, underL]⟩
      unfold Builtin.delete_
      simp only [IV.den, denL]
      simp only [Sem.run_bind, run_underlying hu, Result.andThen_ok, (hr.map hb).1, hck, hfk _ hfi, Option.map_some, Option.map_none, hset, Sem.run_pure, List.getElem?_toArray, List.getElem?_cons_zero, List.getElem?_cons_succ]
    · cases hf

/-! ### tuples, interfaces, functions -/
def extractI (x : IV) (i : Nat) : Option IV :=
  match x with
  | .tup vs => vs[i]?
  | _ => none

theorem extractI_run (hr : Rel P w0 E h w) {x v : IV} {i : Nat} (hx : x.under h.next) (hf : extractI x i = some v) : Gives P w0 E h w (Instr.extract (x.den E) i) v h := by
  unfold extractI at hf
  split at hf
  case h_2 => cases hf
  rename_i vs
  refine Gives.same hr ?_ ((underL_iff _ _).1 (by simpa [IV.under] using hx) v (List.mem_of_getElem? hf))
  have : (denL E vs).toArray[i]? = some (v.den E) := by simp [denL_eq, hf]
  simp [Instr.extract, IV.den, this]

def makeIfaceI (T : Tr Ty) (t : TypeId) (x : IV) : Option IV :=
  match T.get t with
  | some ty => match ty.d with
    | .interface _ => none
    | _ => some (.iface t x)
  | none => none

include hT in
theorem makeIfaceI_run (hr : Rel P w0 E h w) {t : TypeId} {x v : IV} (hx : x.under h.next) (hf : makeIfaceI T t x = some v) : Gives P w0 E h w (Instr.makeInterface t (x.den E)) v h := by
  unfold makeIfaceI at hf
  split at hf
  case h_2 => cases hf
  rename_i ty ht
  have hu := (hT _ _ ht).und
  split at hf
  · cases hf
  · rename_i hne
    cases hf
    refine Gives.same hr ?_ (by simpa [IV.under] using hx)
    cases hd : ty.d <;> rw [hd] at hu <;> first
      | exact absurd hd (hne _)
      | simp [Instr.makeInterface, run_underlying hu, IV.den]

def assertI (T : Tr Ty) (x : IV) (t : TypeId) (ok : Bool) : Option IV :=
  match T.get t with
  | none => none
  | some ty =>
    match ty.d, x with
    | .interface _, _ => none
    | _, .iface t' v => if t' = t then some (bif ok then .tup [v, .bool true] else v) else bif ok then some (.tup [ty.zv, .bool false]) else none
    | _, .nilif => bif ok then some (.tup [ty.zv, .bool false]) else none
    | _, _ => none

include hT in
theorem assertI_run (hr : Rel P w0 E h w) {x v : IV} {xt t : TypeId} {ok : Bool} (hx : x.under h.next) (hf : assertI T x t ok = some v) :
    Gives P w0 E h w (Instr.typeAssert (x.den E) xt t ok) v h := by
  unfold assertI at hf
  split at hf
  · cases hf
  rename_i ty ht
  have hty := hT _ _ ht
  have hu := hty.und
  have hzu := IV.under_of_flat h.next _ hty.flat
  have hni : ∀ m, ty.d ≠ .interface m := fun m e => by simp [e] at hf
  have hz := fun w' => hty.run_zero (P := P) E w'
  split at hf
  · cases hf
  · rename_i t' v' _
    split at hf
    · next he =>
      subst he
      cases hf
      have hx' : v'.under h.next := by simpa [IV.under] using hx
      refine Gives.same hr ?_ (by cases ok <;> simp [IV.under, underL, hx'])
      cases hd : ty.d <;> rw [hd] at hu <;> first
        | exact absurd hd (hni _)
        | (cases ok <;> simp [Instr.typeAssert, run_underlying hu, IV.den, denL])
    · next he =>
      cases ok with
      | false => cases hf
      | true =>
        cases hf
        refine Gives.same hr ?_ (by simp [IV.under, underL, hzu])
        cases hd : ty.d <;> rw [hd] at hu <;> first
          | exact absurd hd (hni _)
          | simp [Instr.typeAssert, run_underlying hu, IV.den, denL, he, hz]
  · cases ok with
    | false => cases hf
    | true =>
      cases hf
      refine Gives.same hr ?_ (by simp [IV.under, underL, hzu])
      cases hd : ty.d <;> rw [hd] at hu <;> first
        | exact absurd hd (hni _)
        | simp [Instr.typeAssert, run_underlying hu, IV.den, denL, hz]
  · cases hf

end
end Sx
