/- A region whose order is drawn: whatever order its edges allow, the outcome is that of the text's order. -/
import Derived.Test.YtjeakifmlmmpaaaGreatDoorSxRange
namespace Sx
open Go Go.RowKit
set_option linter.unusedSimpArgs false

/-! ### What an operation looks at -/
def agree (tm tm' : Tm) (o : Operand) : Prop := ∀ t, o = .tmp t → tm.tmp t = tm'.tmp t

theorem evo_congr {tm tm' : Tm} {o : Operand} (h : agree tm tm' o) : evo tm o = evo tm' o := by
  cases o with
  | tmp t => simp [evo, h t rfl]
  | _ => rfl

theorem evoG_congr {tm tm' : Tm} {h : H} {o : Operand} (ha : agree tm tm' o) : evoG tm h o = evoG tm' h o := by
  cases o with
  | global g => rfl
  | tmp t => exact evo_congr ha
  | const v => rfl
  | func f => rfl

theorem evos_congr {tm tm' : Tm} : ∀ {l : List Operand}, (∀ o ∈ l, agree tm tm' o) → evos tm l = evos tm' l
  | [], _ => rfl
  | x :: xs, h => by
    simp only [evos]
    rw [evo_congr (h x (by simp)), evos_congr (fun o ho => h o (by simp [ho]))]

theorem evps_congr {tm tm' : Tm} : ∀ {l : List (Nat × Operand)}, (∀ p ∈ l, agree tm tm' p.2) → evps tm l = evps tm' l
  | [], _ => rfl
  | x :: xs, h => by
    simp only [evps]
    rw [evo_congr (h x (by simp)), evps_congr (fun o ho => h o (by simp [ho]))]

theorem evOpt_congr {tm tm' : Tm} {o : Option Operand} (h : ∀ x, o = some x → agree tm tm' x) : evOpt tm o = evOpt tm' o := by
  cases o with
  | none => rfl
  | some x => simp [evOpt, evo_congr (h x rfl)]

theorem iop_congr {T : Tr Ty} {tm tm' : Tm} {h : H} {op : Op} (ha : ∀ x ∈ op.operands, agree tm tm' x) : iop T tm h op = iop T tm' h op := by
  cases op <;> simp only [Op.operands] at ha <;> simp only [iop]
  case build t ps => rw [evps_congr fun p hp => ha p.2 (by simp; exact ⟨p.1, Array.mem_toList_iff.1 hp⟩)]
  case buildSlice t n ps => rw [evps_congr fun p hp => ha p.2 (by simp; exact ⟨p.1, Array.mem_toList_iff.1 hp⟩)]
  case makeFunc fn first captured => rw [evos_congr fun o ho => ha o (by simp [Array.mem_toList_iff.1 ho]), evos_congr fun o ho => ha o (by simp [Array.mem_toList_iff.1 ho])]
  case makeMap t r => rw [evOpt_congr fun x hx => ha x (by simp [hx])]
  case slice t x lo hi mx =>
    rw [evoG_congr (ha x (by simp)), evOpt_congr (o := lo) fun x hx => ha x (by simp [hx]), evOpt_congr (o := hi) fun x hx => ha x (by simp [hx]), evOpt_congr (o := mx) fun x hx => ha x (by simp [hx])]
  case call c =>
    obtain ⟨callee, args, argTypes⟩ := c
    cases callee with
    | builtin b => rw [evos_congr fun o ho => ha o (by simp [Call.operands, Array.mem_toList_iff.1 ho])]
    | _ => rfl
  case pick c a b => rw [evo_congr (ha c (by simp)), evo_congr (ha a (by simp)), evo_congr (ha b (by simp))]
  case mapUpdate t m k v => rw [evo_congr (ha m (by simp)), evo_congr (ha k (by simp)), evo_congr (ha v (by simp))]
  case insert t m k v => rw [evo_congr (ha m (by simp)), evo_congr (ha k (by simp)), evo_congr (ha v (by simp))]
  case store t a v => rw [evo_congr (ha a (by simp)), evo_congr (ha v (by simp))]
  case binOp op t a v yt => rw [evo_congr (ha a (by simp)), evo_congr (ha v (by simp))]
  case makeSlice t a v => rw [evo_congr (ha a (by simp)), evo_congr (ha v (by simp))]
  case indexAddr t a v => rw [evo_congr (ha a (by simp)), evo_congr (ha v (by simp))]
  case index t a v => rw [evo_congr (ha a (by simp)), evo_congr (ha v (by simp))]
  case lookup t a v ok => rw [evo_congr (ha a (by simp)), evo_congr (ha v (by simp))]
  all_goals first
    | (rename_i x; rw [evo_congr (ha x (by simp))])
    | (rename_i x _; rw [evo_congr (ha x (by simp))])
    | (rename_i x _ _; rw [evo_congr (ha x (by simp))])
    | (rename_i x _ _ _; rw [evo_congr (ha x (by simp))])

/-! ### Orders -/
def maskOf (o : Oper) (acc : List Nat) : Nat :=
  o.after.foldl (fun s e => if Region.binds .any e then s ||| (2 ^ e.on ||| acc.getD e.on 0) else s) 0

def befL : List Oper → List Nat → List Nat
  | [], acc => acc
  | o :: os, acc => befL os (acc ++ [maskOf o acc])

theorem befL_prefix : ∀ (l : List Oper) (acc : List Nat), ∃ r, befL l acc = acc ++ r ∧ r.length = l.length
  | [], acc => ⟨[], by simp [befL]⟩
  | o :: os, acc => by
    obtain ⟨r, h1, h2⟩ := befL_prefix os (acc ++ [maskOf o acc])
    exact ⟨maskOf o acc :: r, by simp [befL, h1], by simp [h2]⟩

theorem befL_at : ∀ (l : List Oper) (acc : List Nat) (j : Nat) (o : Oper), l[j]? = some o →
    (befL l acc)[acc.length + j]? = some (maskOf o ((befL l acc).take (acc.length + j)))
  | [], acc, j, o, h => by simp at h
  | x :: xs, acc, 0, o, h => by
    simp at h
    subst h
    obtain ⟨r, h1, h2⟩ := befL_prefix xs (acc ++ [maskOf x acc])
    simp [befL, h1]
  | x :: xs, acc, j + 1, o, h => by
    have := befL_at xs (acc ++ [maskOf x acc]) j o (by simpa using h)
    simp only [List.length_append, List.length_cons, List.length_nil] at this
    simp only [befL]
    rw [show acc.length + (j + 1) = acc.length + (0 + 1) + j by omega]
    exact this

theorem mask_bit (acc : List Nat) (i : Nat) : ∀ (es : List Edge) (s : Nat), (es.foldl (fun s e => if Region.binds .any e then s ||| (2 ^ e.on ||| acc.getD e.on 0) else s) s).testBit i = true →
    s.testBit i = true ∨ ∃ e ∈ es, Region.binds .any e = true ∧ (i = e.on ∨ (acc.getD e.on 0).testBit i = true)
  | [], s, h => .inl h
  | e :: es, s, h => by
    simp only [List.foldl_cons] at h
    rcases mask_bit acc i es _ h with h | ⟨e', h1, h2⟩
    · split at h
      · next hb =>
        simp only [Nat.testBit_or, Bool.or_eq_true, Nat.testBit_two_pow, decide_eq_true_eq] at h
        rcases h with h | h | h
        · exact .inl h
        · exact .inr ⟨e, by simp, hb, .inl h.symm⟩
        · exact .inr ⟨e, by simp, hb, .inr h⟩
      · exact .inl h
    · exact .inr ⟨e', by simp [h1], h2⟩

/-- i comes ahead of j, in every order. -/
def ordB (B : List Nat) (i j : Nat) : Bool := (B.getD j 0).testBit i

theorem ordB_spec {ops : Array Oper} {i j : Nat} {o : Oper} (ho : ops[j]? = some o) (h : ordB (befL ops.toList []) i j = true) :
    ∃ e ∈ o.after, Region.binds .any e = true ∧ (i = e.on ∨ (e.on < j ∧ ordB (befL ops.toList []) i e.on = true)) := by
  have h1 := befL_at ops.toList [] j o (by simpa using ho)
  simp only [List.length_nil, Nat.zero_add] at h1
  unfold ordB at h ⊢
  rw [List.getD_eq_getElem?_getD, h1] at h
  simp only [Option.getD_some, maskOf] at h
  rw [← Array.foldl_toList] at h
  rcases mask_bit _ _ _ _ h with h | ⟨e, he, hb, hc⟩
  · simp at h
  · refine ⟨e, Array.mem_toList_iff.1 he, hb, ?_⟩
    rcases hc with hc | hc
    · exact .inl hc
    · refine .inr ?_
      by_cases hj : e.on < j
      · refine ⟨hj, ?_⟩
        rw [List.getD_eq_getElem?_getD, List.getElem?_take_of_lt hj] at hc
        rw [List.getD_eq_getElem?_getD]
        exact hc
      · rw [List.getD_eq_getElem?_getD, List.getElem?_eq_none (by simp; omega)] at hc
        simp at hc

/-- A set of operations that holds, with each, all that come ahead of it. -/
def Closed (ops : Array Oper) (D : Nat → Prop) : Prop := ∀ j o, D j → ops[j]? = some o → ∀ e ∈ o.after, Region.binds .any e = true → D e.on

theorem closed_ord {ops : Array Oper} {D : Nat → Prop} (hc : Closed ops D) : ∀ (j i : Nat) (o : Oper), ops[j]? = some o → (∀ e ∈ o.after, Region.binds .any e = true → D e.on) →
    ordB (befL ops.toList []) i j = true → D i := by
  intro j
  induction j using Nat.strongRecOn with
  | _ j ih =>
    intro i o ho hd h
    obtain ⟨e, he, hb, hx⟩ := ordB_spec ho h
    rcases hx with rfl | ⟨hlt, hx⟩
    · exact hd e he hb
    · have hde := hd e he hb
      cases hoe : ops[e.on]? with
      | none =>
        exfalso
        unfold ordB at hx
        obtain ⟨r, h1, h2⟩ := befL_prefix ops.toList []
        have hl : (befL ops.toList []).length = ops.size := by rw [h1]; simp [h2]
        rw [List.getD_eq_getElem?_getD, List.getElem?_eq_none (by rw [hl]; exact Array.getElem?_eq_none_iff.1 hoe)] at hx
        simp at hx
      | some oe => exact ih e.on hlt i oe hoe (fun e' he' hb' => hc e.on oe hde hoe e' he' hb') hx

/-! ### The check of a region -/
def tmpsOf (op : Op) : List Nat := op.operands.toList.filterMap fun | .tmp t => some t | _ => none
def namesOf (ops : Array Oper) (o : Oper) : List Nat :=
  o.dst.toList ++ tmpsOf o.op ++ (match o.guard with
    | some (g, _) => ((ops[g]?).bind (·.dst)).toList
    | none => [])

def plainTy (T : Tr Ty) (t : TypeId) : Bool :=
  match T.get t with
  | some ty => match ty.d with
    | .int _ => true
    | _ => false
  | none => false

/-- Does an operation change the heap? (A 'no' is checked where it is used.) -/
def effOp (T : Tr Ty) : Op → Bool
  | .alloc _ | .box .. | .buildSlice .. | .store .. | .makeMap .. | .makeSlice .. | .mapUpdate .. | .insert .. | .range .. | .next .. => true
  | .convert _ d _ => !plainTy T d
  | .call c => match c.callee with
    | .builtin .len | .builtin .cap | .builtin .min | .builtin .max => false
    | _ => true
  | _ => false

def effB (T : Tr Ty) (ops : Array Oper) (j : Nat) : Bool := ((ops[j]?).map fun o => effOp T o.op).getD false

def rank (T : Tr Ty) (ops : Array Oper) : Nat → Nat
  | 0 => 0
  | j + 1 => rank T ops j + (if effB T ops j then 1 else 0)

/-- Temporaries and effects are in order. -/
def orderOK (T : Tr Ty) (ops : Array Oper) (B : List Nat) : Bool :=
  (List.range ops.size).all fun j => (List.range j).all fun i =>
    match ops[i]?, ops[j]? with
    | some a, some b =>
      (match a.dst with | some d => !(namesOf ops b).contains d || ordB B i j | none => true) &&
      (match b.dst with | some d => !(namesOf ops a).contains d || ordB B i j | none => true) &&
      (!(effOp T a.op && effOp T b.op) || ordB B i j)
    | _, _ => true

def dstOK (ops : Array Oper) (ntmps : Nat) : Bool := ops.all fun o => match o.dst with | some d => Nat.blt d ntmps | none => true

def edgesOK (ops : Array Oper) : Bool :=
  (List.range ops.size).all fun j => match ops[j]? with
    | some o => o.after.all fun e => !Region.binds .any e || Nat.blt e.on j
    | none => true

def winB (T : Tr Ty) (ops : Array Oper) (B : List Nat) (j k : Nat) : Bool :=
  (List.range ops.size).all fun e => !effB T ops e || ((!ordB B e j || Nat.blt (rank T ops e) k) && (!ordB B j e || Nat.ble k (rank T ops e)))

def dstAt (ops : Array Oper) (j : Nat) : Option Tmp := (ops[j]?).bind (·.dst)

/-- The frame ahead of operation j, in the text's order. -/
def frAt (ops : Array Oper) (vals : Nat → IV) (fr : Fr) : Nat → Fr
  | 0 => fr
  | j + 1 => (frAt ops vals fr j).put (dstAt ops j) (vals j)

/-- The value of temporary t when the operations of D have run. -/
def tmD (ops : Array Oper) (vals : Nat → IV) (fr : Fr) (D : Nat → Bool) : Nat → Nat → IV
  | 0, t => fr.tm.tmp t
  | j + 1, t => if D j = true ∧ dstAt ops j = some t then vals j else tmD ops vals fr D j t

theorem frAt_tmp (ops : Array Oper) (vals : Nat → IV) (fr : Fr) : ∀ (j t : Nat), (frAt ops vals fr j).tm.tmp t = tmD ops vals fr (fun _ => true) j t
  | 0, t => rfl
  | j + 1, t => by
    simp only [frAt, tmD, true_and]
    unfold Fr.put
    cases hd : dstAt ops j with
    | none => simp [frAt_tmp ops vals fr j t]
    | some d =>
      simp only [tmp_set, Option.some.injEq]
      split <;> simp_all [frAt_tmp ops vals fr j t]

theorem frAt_marks (ops : Array Oper) (vals : Nat → IV) (fr : Fr) : ∀ j, (frAt ops vals fr j).marks = fr.marks
  | 0 => rfl
  | j + 1 => by
    simp only [frAt]
    unfold Fr.put
    split <;> simp [frAt_marks ops vals fr j]

/-- Where D's writers of t are just those below j. -/
theorem tmD_eq (ops : Array Oper) (vals : Nat → IV) (fr : Fr) (D : Nat → Bool) (t j : Nat) : ∀ (n : Nat), j ≤ n → (∀ i, i < n → dstAt ops i = some t → (D i = true ↔ i < j)) →
    tmD ops vals fr D n t = tmD ops vals fr (fun _ => true) j t := by
  intro n
  induction n with
  | zero => intro hj _; have : j = 0 := by omega
            subst this; rfl
  | succ n ih =>
    intro hj hD
    by_cases hn : j = n + 1
    · subst hn
      have key : ∀ m, m ≤ n + 1 → tmD ops vals fr D m t = tmD ops vals fr (fun _ => true) m t := by
        intro m
        induction m with
        | zero => intro _; rfl
        | succ m ihm =>
          intro hm
          simp only [tmD, true_and]
          by_cases hd : dstAt ops m = some t
          · rw [if_pos ⟨(hD m (by omega) hd).2 (by omega), hd⟩, if_pos hd]
          · rw [if_neg (fun h => hd h.2), if_neg hd, ihm (by omega)]
      exact key _ (Nat.le_refl _)
    · simp only [tmD]
      rw [if_neg, ih (by omega) fun i hi hd => hD i (by omega) hd]
      rintro ⟨h1, h2⟩
      have := (hD n (by omega) h2).1 h1
      omega

theorem rank_le (T : Tr Ty) (ops : Array Oper) : ∀ {i j : Nat}, i ≤ j → rank T ops i ≤ rank T ops j := by
  intro i j h
  induction h with
  | refl => exact Nat.le_refl _
  | step _ ih => simp only [rank]; omega

theorem rank_lt (T : Tr Ty) (ops : Array Oper) {i j : Nat} (h : i < j) (he : effB T ops i = true) : rank T ops i < rank T ops j := by
  have := rank_le T ops (show i + 1 ≤ j from h)
  simp only [rank, he, if_true] at this
  omega

theorem rank_at (T : Tr Ty) (ops : Array Oper) : ∀ (j k : Nat), k < rank T ops j → ∃ e, e < j ∧ effB T ops e = true ∧ rank T ops e = k
  | 0, k, h => by simp [rank] at h
  | j + 1, k, h => by
    by_cases hk : k < rank T ops j
    · obtain ⟨e, h1, h2, h3⟩ := rank_at T ops j k hk
      exact ⟨e, by omega, h2, h3⟩
    · simp only [rank] at h
      split at h
      · next he => exact ⟨j, by omega, he, by omega⟩
      · omega

/-- How many of the first n operations have not run. -/
def cnt (D : Nat → Bool) : Nat → Nat
  | 0 => 0
  | n + 1 => cnt D n + if D n then 0 else 1

theorem cnt_add {D D' : Nat → Bool} {j : Nat} (hj : D j = false) (hD : ∀ i, D' i = if i = j then true else D i) : ∀ n, cnt D' n + (if j < n then 1 else 0) = cnt D n
  | 0 => rfl
  | n + 1 => by
    have ih := cnt_add hj hD n
    simp only [cnt, hD n]
    by_cases h1 : n = j
    · subst h1
      simp only [if_true, hj, Bool.false_eq_true, if_false]
      rw [if_neg (Nat.lt_irrefl n)] at ih
      rw [if_pos (Nat.lt_succ_self n)]
      omega
    · simp only [if_neg h1]
      by_cases h2 : j < n
      · rw [if_pos h2] at ih; rw [if_pos (show j < n + 1 by omega)]; omega
      · rw [if_neg h2] at ih; rw [if_neg (show ¬ j < n + 1 by omega)]; omega

theorem cnt_zero {D : Nat → Bool} : ∀ n, cnt D n = 0 → ∀ i, i < n → D i = true
  | 0, _, i, hi => by omega
  | n + 1, h, i, hi => by
    simp only [cnt] at h
    by_cases e : i = n
    · subst e
      cases hd : D i with
      | true => rfl
      | false => rw [hd] at h; simp at h
    · exact cnt_zero n (by omega) i (by omega)

theorem tmD_add (ops : Array Oper) (vals : Nat → IV) (fr : Fr) {D D' : Nat → Bool} {j t : Nat} (hD : ∀ i, D' i = if i = j then true else D i) :
    ∀ n, (dstAt ops j = some t → ∀ i, i < n → j < i → dstAt ops i = some t → D i = false) → tmD ops vals fr D' n t = if j < n ∧ dstAt ops j = some t then vals j else tmD ops vals fr D n t
  | 0, _ => by simp [tmD]
  | n + 1, h => by
    have ih := tmD_add ops vals fr hD n (fun hj i hi => h hj i (by omega))
    simp only [tmD, hD n]
    by_cases h1 : n = j
    · subst h1
      simp only [if_true, true_and]
      by_cases h2 : dstAt ops n = some t
      · rw [if_pos h2, if_pos ⟨by omega, h2⟩]
      · rw [if_neg h2, if_neg (fun hh => h2 hh.2), ih, if_neg (by omega), if_neg (fun hh => h2 hh.2)]
    · simp only [if_neg h1]
      by_cases h2 : D n = true ∧ dstAt ops n = some t
      · rw [if_pos h2]
        rw [if_neg (t := vals j), if_pos h2]
        rintro ⟨hj1, hj2⟩
        have := h hj2 n (Nat.lt_succ_self n) (by omega) h2.2
        rw [this] at h2
        exact absurd h2.1 (by simp)
      · rw [if_neg h2, ih]
        by_cases h3 : j < n
        · by_cases h4 : dstAt ops j = some t
          · rw [if_pos ⟨h3, h4⟩, if_pos ⟨by omega, h4⟩]
          · rw [if_neg (fun hh => h4 hh.2), if_neg (fun hh => h4 hh.2), if_neg h2]
        · rw [if_neg (fun hh => h3 hh.1), if_neg (fun hh => h3 (by omega)), if_neg h2]

/-- What is known of operation j in the text's order. -/
def OpFact (P : Program) (T : Tr Ty) (ops : Array Oper) (B : List Nat) (vals : Nat → IV) (hs : Nat → H) (fr : Fr) (j : Nat) (o : Oper) : Prop :=
  if wantedI ops (frAt ops vals fr j).tm o = false then vals j = undefI ∧ (effOp T o.op = true → hs (rank T ops j + 1) = hs (rank T ops j))
  else if effOp T o.op = true then
    iop T (frAt ops vals fr j).tm (hs (rank T ops j)) o.op = some (vals j, hs (rank T ops j + 1)) ∨
    ∃ c fo fv vs, o.op = .call c ∧ c.callee = .value fo ∧ evo (frAt ops vals fr j).tm fo = some fv ∧ evos (frAt ops vals fr j).tm c.args.toList = some vs ∧
      Cl P fv vs (hs (rank T ops j)) fun v h' => v = vals j ∧ h' = hs (rank T ops j + 1)
  else ∀ k, k ≤ rank T ops ops.size → winB T ops B j k = true → iop T (frAt ops vals fr j).tm (hs k) o.op = some (vals j, hs k)

section
variable {P : Program} {T : Tr Ty} (hT : TabOK P T) {rd : Option Nat} {ntmps : Nat} {Q : Out → Fr → H → Prop} {fr : Fr} {h : H}

theorem wantedI_congr {ops : Array Oper} {tm tm' : Tm} {o : Oper} (hg : ∀ g b d, o.guard = some (g, b) → (ops[g]?).bind (·.dst) = some d → tm.tmp d = tm'.tmp d) : wantedI ops tm o = wantedI ops tm' o := by
  unfold wantedI
  cases hx : o.guard with
  | none => rfl
  | some gw =>
    obtain ⟨g, b⟩ := gw
    simp only
    cases hd : (ops[g]?).bind (·.dst) with
    | none => rfl
    | some d => simp only [hg g b d hx hd]

include hT in
theorem Ev.region_draw {id : Nat} {ops : Array Oper} (hm : P.follows .mixedOrders = true) (vals : Nat → IV) (hs : Nat → H) (h0 : hs 0 = h)
    (hord : orderOK T ops (befL ops.toList []) = true) (hedge : edgesOK ops = true) (hdst : dstOK ops ntmps = true)
    (hop : ∀ j o, ops[j]? = some o → OpFact P T ops (befL ops.toList []) vals hs fr j o)
    (hq : Q .normal (frAt ops vals fr ops.size) (hs (rank T ops ops.size))) : Ev P rd ntmps (.region id ops true) Q fr h := by
  intro w0 E w a hr hrd ha
  refine wpIn_region_any hm ?_
  generalize hB : befL ops.toList [] = B at hord hop
  -- what the check gives
  have hdst' : ∀ (j : Nat) (o : Oper), ops[j]? = some o → ∀ d, o.dst = some d → d < ntmps := fun j o ho d hd => by
    have := Array.all_eq_true_iff_forall_mem.1 hdst o (Array.mem_of_getElem? ho)
    rw [hd] at this
    simpa [Nat.blt_eq] using this
  have hpair : ∀ (i j : Nat) (a b : Oper), i < j → ops[i]? = some a → ops[j]? = some b →
      (∀ d, a.dst = some d → d ∈ namesOf ops b → ordB B i j = true) ∧ (∀ d, b.dst = some d → d ∈ namesOf ops a → ordB B i j = true) ∧ (effOp T a.op = true → effOp T b.op = true → ordB B i j = true) := by
    intro i j a b hij hi hj
    have h1 := List.all_eq_true.1 hord j (List.mem_range.2 (Array.getElem?_eq_some_iff.1 hj).1)
    have h2 := List.all_eq_true.1 h1 i (List.mem_range.2 hij)
    simp only [hi, hj, Bool.and_eq_true] at h2
    refine ⟨fun d hd hn => ?_, fun d hd hn => ?_, fun e1 e2 => ?_⟩
    · have := h2.1.1; rw [hd] at this; simpa [hn] using this
    · have := h2.1.2; rw [hd] at this; simpa [hn] using this
    · have := h2.2; simpa [e1, e2] using this
  have hord' : ∀ {D : Nat → Prop}, Closed ops D → ∀ (j i : Nat) (o : Oper), ops[j]? = some o → (∀ e ∈ o.after, Region.binds .any e = true → D e.on) → ordB B i j = true → D i := by
    intro D hc j i o ho hd hx
    rw [← hB] at hx
    exact closed_ord hc j i o ho hd hx
  have hrel0 : Rel P w0 E (hs 0) { w with drawn := w.drawn + 1 } := by rw [h0]; exact hr.drew _
  have hedge' : ∀ j o, ops[j]? = some o → ∀ e ∈ o.after, Region.binds .any e = true → e.on < j := by
    intro j o ho e he hb
    have h1 := List.all_eq_true.1 hedge j (List.mem_range.2 (Array.getElem?_eq_some_iff.1 ho).1)
    simp only [ho] at h1
    have := Array.all_eq_true_iff_forall_mem.1 h1 e he
    simpa [hb, Nat.blt_eq] using this
  have hsome : ∀ j, j < ops.size → ∃ o, ops[j]? = some o := fun j hj => ⟨_, Array.getElem?_eq_getElem hj⟩
  -- when all have run
  have hend : ∀ (listed : Array Bool) (fr' : Fr) (k : Nat) (E' : Env) (a : Act) (w : World),
      (∀ i, i < ops.size → listed.getD i false = true) → (∀ t, fr'.tm.tmp t = tmD ops vals fr (fun j => listed.getD j false) ops.size t) → fr'.marks = fr.marks →
      k ≤ rank T ops ops.size → (∀ e, e < ops.size → effB T ops e = true → (listed.getD e false = true ↔ rank T ops e < k)) →
      Rel P w0 E' (hs k) w → Step E h E' (hs k) → ARel E' (hs k).next ntmps fr' a → Post P w0 E h ntmps Q .normal a w := by
    intro listed fr' k E' a w hall htm hmk hk hek hr' hs' ha'
    have hkk : k = rank T ops ops.size := by
      rcases Nat.lt_or_ge k (rank T ops ops.size) with hlt | hge
      · obtain ⟨e, e1, e2, e3⟩ := rank_at T ops ops.size k hlt
        have := (hek e e1 e2).1 (hall e e1)
        omega
      · omega
    subst hkk
    have hpt : ∀ t, (frAt ops vals fr ops.size).tm.tmp t = fr'.tm.tmp t := fun t => by
      rw [frAt_tmp, htm t]
      exact (tmD_eq ops vals fr _ t ops.size ops.size (Nat.le_refl _) fun i hi _ => ⟨fun _ => hi, fun _ => hall i hi⟩).symm
    refine ⟨.normal, _, _, E', rfl, hr', hs', ⟨⟨ha'.f.size, fun i => by rw [hpt]; exact ha'.f.val i, fun i => by rw [hpt]; exact ha'.f.under i⟩, ?_, ?_⟩, hq⟩
    · rw [frAt_marks, ← hmk]; exact ha'.d
    · rw [frAt_marks, ← hmk]; exact ha'.u
  -- the invariant
  have key : ∀ (fuel : Nat) (listed : Array Bool) (fr' : Fr) (k : Nat) (E' : Env) (a : Act) (w : World),
      listed.size = ops.size →
      Closed ops (fun j => listed.getD j false = true) →
      (∀ t, fr'.tm.tmp t = tmD ops vals fr (fun j => listed.getD j false) ops.size t) → fr'.marks = fr.marks →
      k ≤ rank T ops ops.size → (∀ e, e < ops.size → effB T ops e = true → (listed.getD e false = true ↔ rank T ops e < k)) →
      Rel P w0 E' (hs k) w → Step E h E' (hs k) → ARel E' (hs k).next ntmps fr' a →
      cnt (fun j => listed.getD j false) ops.size ≤ fuel →
      wpAnyIn (Wd (rd.map E.ρ)) 0 P .any ops (Post P w0 E h ntmps Q) fuel listed a w := by
    intro fuel
    induction fuel with
    | zero =>
      intro listed fr' k E' a w hsz hcl htm hmk hk hek hr' hs' ha' hfuel
      have hall := cnt_zero ops.size (Nat.le_zero.1 hfuel)
      refine ⟨?_, hend listed fr' k E' a w hall htm hmk hk hek hr' hs' ha'⟩
      rw [List.eq_nil_iff_forall_not_mem]
      intro j hj
      obtain ⟨h1, o, ho, _⟩ := mem_ready.1 hj
      have hlt := (Array.getElem?_eq_some_iff.1 ho).1
      have := hall j hlt
      rw [Array.getD_eq_getD_getElem?, Array.getElem?_eq_getElem (by omega)] at h1 this
      simp at h1 this
      rw [h1] at this
      cases this
    | succ fuel ih =>
      intro listed fr' k E' a w hsz hcl htm hmk hk hek hr' hs' ha' hfuel
      have hgd : ∀ j, j < ops.size → listed.getD j true = listed.getD j false := fun j hj => by
        rw [Array.getD_eq_getD_getElem?, Array.getD_eq_getD_getElem?, Array.getElem?_eq_getElem (by omega)]; rfl
      refine ⟨fun hnil => hend listed fr' k E' a w ?_ htm hmk hk hek hr' hs' ha', ?_⟩
      · -- none is ready: all have run
        intro i hi
        induction i using Nat.strongRecOn with
        | _ i ihi =>
          cases hd : listed.getD i false with
          | true => rfl
          | false =>
            exfalso
            obtain ⟨o, ho⟩ := hsome i hi
            have : i ∈ Region.ready .any ops listed := mem_ready.2 ⟨by rw [hgd i hi]; exact hd, o, ho, fun e he hb => ihi e.on (hedge' i o ho e he hb) (by have := hedge' i o ho e he hb; omega)⟩
            rw [hnil] at this
            cases this
      · intro j hj
        obtain ⟨hun0, o, ho, hpre⟩ := mem_ready.1 hj
        have hjlt := (Array.getElem?_eq_some_iff.1 ho).1
        have hun : listed.getD j false = false := by rw [← hgd j hjlt]; exact hun0
        have hdj : dstAt ops j = o.dst := by simp [dstAt, ho]
        -- a later writer or reader of the same temporaries has not run
        have hafter : ∀ i oi, j < i → ops[i]? = some oi → listed.getD i false = true → ordB B j i = true → False := by
          intro i oi hji hoi hdi hord2
          have : listed.getD j false = true := hord' hcl i j oi hoi (fun e he hb => hcl i oi hdi hoi e he hb) hord2
          rw [this] at hun
          cases hun
        have hagree : ∀ t, t ∈ namesOf ops o → fr'.tm.tmp t = (frAt ops vals fr j).tm.tmp t := by
          intro t ht
          rw [htm, frAt_tmp]
          refine tmD_eq ops vals fr _ t j ops.size (by omega) fun i hi hd => ?_
          obtain ⟨oi, hoi⟩ := hsome i hi
          have hd' : oi.dst = some t := by simpa [dstAt, hoi] using hd
          constructor
          · intro hdi
            rcases Nat.lt_trichotomy i j with h1 | h1 | h1
            · exact h1
            · subst h1; rw [hdi] at hun; cases hun
            · exact (hafter i oi h1 hoi hdi ((hpair j i o oi h1 ho hoi).2.1 t hd' ht)).elim
          · intro hij
            exact hord' hcl j i o ho hpre ((hpair i j oi o hij hoi ho).1 t hd' ht)
        have hops : ∀ x ∈ o.op.operands, agree fr'.tm (frAt ops vals fr j).tm x := fun x hx t ht => by
          refine hagree t ?_
          subst ht
          simp only [namesOf, List.mem_append]
          exact .inl (.inr (List.mem_filterMap.2 ⟨.tmp t, Array.mem_toList_iff.2 hx, rfl⟩))
        have hwant : wantedI ops fr'.tm o = wantedI ops (frAt ops vals fr j).tm o := by
          refine wantedI_congr fun g b d hg hd => hagree d ?_
          simp only [namesOf, List.mem_append, hg]
          exact .inr (by simp [hd])
        -- the new state
        have hset : ∀ i, (listed.setIfInBounds j true).getD i false = if i = j then true else listed.getD i false := fun i => by
          rw [Array.getD_eq_getD_getElem?, Array.getElem?_setIfInBounds]
          by_cases e : j = i
          · subst e; simp [hsz, hjlt]
          · rw [if_neg e, if_neg (fun hh => e hh.symm), Array.getD_eq_getD_getElem?]
        have hnew : ∀ (k' : Nat) (E2 : Env) (w2 : World), k' ≤ rank T ops ops.size → (∀ e, e < ops.size → effB T ops e = true → ((if e = j then true else listed.getD e false) = true ↔ rank T ops e < k')) →
            Rel P w0 E2 (hs k') w2 → Step E h E2 (hs k') → ARel E2 (hs k').next ntmps (fr'.put o.dst (vals j)) (a.put o.dst ((vals j).den E2)) →
            wpAnyIn (Wd (rd.map E.ρ)) 0 P .any ops (Post P w0 E h ntmps Q) fuel (listed.setIfInBounds j true) (a.put o.dst ((vals j).den E2)) w2 := by
          intro k' E2 w2 hk' hek' hr2 hs2 ha2
          refine ih (listed.setIfInBounds j true) (fr'.put o.dst (vals j)) k' E2 _ w2 (by simp [hsz]) ?_ ?_ ?_ hk' ?_ hr2 hs2 ha2 ?_
          · intro i oi hdi hoi e he hb
            rw [hset] at hdi ⊢
            by_cases e1 : e.on = j
            · rw [if_pos e1]
            · rw [if_neg e1]
              by_cases e2 : i = j
              · subst e2
                rw [ho] at hoi
                cases hoi
                exact hpre e he hb
              · rw [if_neg e2] at hdi
                exact hcl i oi hdi hoi e he hb
          · intro t
            rw [tmD_add ops vals fr (D := fun j => listed.getD j false) (j := j) (fun i => hset i) ops.size (fun hjt i hi hji hd => ?_)]
            · unfold Fr.put
              rw [hdj]
              cases hdst2 : o.dst with
              | none => simp [htm t]
              | some d =>
                simp only [tmp_set, Option.some.injEq, hjlt, true_and]
                rw [htm t]
            · obtain ⟨oi, hoi⟩ := hsome i hi
              cases hdi : listed.getD i false with
              | false => rfl
              | true =>
                exfalso
                have hd' : oi.dst = some t := by simpa [dstAt, hoi] using hd
                exact hafter i oi hji hoi hdi ((hpair j i o oi hji ho hoi).2.1 t hd' (by simp only [namesOf, List.mem_append]; exact .inl (.inl (by rw [← hdj, hjt]; simp))))
          · unfold Fr.put
            split <;> exact hmk
          · intro e he hee
            rw [hset]
            exact hek' e he hee
          · have := cnt_add (D := fun j => listed.getD j false) hun (fun i => hset i) ops.size
            rw [if_pos hjlt] at this
            omega
        have heff : effB T ops j = effOp T o.op := by simp [effB, ho]
        have hrankj : effOp T o.op = true → k = rank T ops j := by
          intro he
          have h1 : ¬ rank T ops j < k := fun hlt => by
            have := (hek j hjlt (by rw [heff]; exact he)).2 hlt
            rw [this] at hun
            cases hun
          rcases Nat.lt_or_ge k (rank T ops j) with h2 | h2
          · exfalso
            obtain ⟨e, e1, e2, e3⟩ := rank_at T ops j k h2
            obtain ⟨oe, hoe⟩ := hsome e (by omega)
            have he2 : effOp T oe.op = true := by simpa [effB, hoe] using e2
            have := hord' hcl j e o ho hpre ((hpair e j oe o e1 hoe ho).2.2 he2 he)
            have := (hek e (by omega) e2).1 this
            omega
          · omega
        have hranksz : effOp T o.op = true → rank T ops j + 1 ≤ rank T ops ops.size := fun he => rank_lt T ops hjlt (by rw [heff]; exact he)
        have hekE : effOp T o.op = true → ∀ e, e < ops.size → effB T ops e = true → ((if e = j then true else listed.getD e false) = true ↔ rank T ops e < rank T ops j + 1) := by
          intro he e hel hee
          have hkj := hrankj he
          by_cases e1 : e = j
          · subst e1; simp
          · rw [if_neg e1, hek e hel hee, hkj]
            rcases Nat.lt_or_gt_of_ne e1 with h1 | h1
            · have := rank_lt T ops h1 hee; omega
            · have := rank_lt T ops h1 (by rw [heff]; exact he); omega
        have hekN : effOp T o.op = false → ∀ e, e < ops.size → effB T ops e = true → ((if e = j then true else listed.getD e false) = true ↔ rank T ops e < k) := by
          intro he e hel hee
          by_cases e1 : e = j
          · subst e1; rw [heff, he] at hee; cases hee
          · rw [if_neg e1]; exact hek e hel hee
        have hd := hdst' j o ho
        have hfact := hop j o ho
        unfold OpFact at hfact
        split at hfact
        · next hw =>
          rw [← hwant] at hw
          refine opStep_skip ha' ho hw ?_
          have hput := ha'.put (v := undefI) hd (by simp [undefI, IV.under, underL])
          rw [← hfact.1] at hput
          have e0 : a.put o.dst undef = a.put o.dst ((vals j).den E') := by rw [hfact.1, den_undef]
          rw [e0]
          cases he : effOp T o.op with
          | true =>
            have hkj := hrankj he
            have h2 := hfact.2 he
            subst hkj
            exact hnew (rank T ops j + 1) E' w (hranksz he) (hekE he) (by rw [h2]; exact hr') (by rw [h2]; exact hs') (by rw [h2]; exact hput)
          | false => exact hnew k E' w hk (hekN he) hr' hs' hput
        · next hw =>
          have hw' : wantedI ops fr'.tm o = true := by
            rw [hwant]
            cases hx : wantedI ops (frAt ops vals fr j).tm o with
            | true => rfl
            | false => exact absurd hx hw
          split at hfact
          · next he =>
            have hkj := hrankj he
            subst hkj
            rcases hfact with hfact | ⟨c, fo, fv, vs, hop2, hc, hfv, hvs, hcl2⟩
            · rw [← iop_congr hops] at hfact
              exact opStep_iop hT hr' ha' ho hw' hd hfact fun E2 w2 hr2 hs2 ha2 => hnew (rank T ops j + 1) E2 w2 (hranksz he) (hekE he) hr2 (hs'.trans hs2) ha2
            · have ho1 : ∀ x ∈ (fo :: c.args.toList), agree fr'.tm (frAt ops vals fr j).tm x := fun x hx => hops x (by
                obtain ⟨callee, args, argTypes⟩ := c
                simp only at hc
                subst hc
                rw [hop2]
                simp only [Op.operands, Call.operands]
                rcases List.mem_cons.1 hx with rfl | hx
                · simp
                · simp [Array.mem_toList_iff.1 hx])
              rw [← evo_congr (ho1 fo (by simp))] at hfv
              rw [← evos_congr (fun x hx => ho1 x (by simp [hx]))] at hvs
              refine opStep_call hr' ha' ho hw' hd hop2 hc hfv hvs hcl2 fun v h' E2 w2 hvh hr2 hs2 ha2 => ?_
              obtain ⟨rfl, rfl⟩ := hvh
              exact hnew (rank T ops j + 1) E2 w2 (hranksz he) (hekE he) hr2 (hs'.trans hs2) ha2
          · next he =>
            have he : effOp T o.op = false := by simpa using he
            have hwin : winB T ops B j k = true := by
              refine List.all_eq_true.2 fun e he2 => ?_
              have hel := List.mem_range.1 he2
              cases hee : effB T ops e with
              | false => rfl
              | true =>
                obtain ⟨oe, hoe⟩ := hsome e hel
                simp only [Bool.not_true, Bool.false_or, Bool.and_eq_true]
                constructor
                · cases hx : ordB B e j with
                  | false => rfl
                  | true =>
                    have := (hek e hel hee).1 (hord' hcl j e o ho hpre hx)
                    simp [Nat.blt_eq, this]
                · cases hx : ordB B j e with
                  | false => rfl
                  | true =>
                    simp only [Bool.not_true, Bool.false_or]
                    refine Nat.ble_eq_true_of_le ?_
                    rcases Nat.lt_or_ge (rank T ops e) k with hlt | hge
                    · exfalso
                      have hde := (hek e hel hee).2 hlt
                      have : listed.getD j false = true := hord' hcl e j oe hoe (fun e' he' hb' => hcl e oe hde hoe e' he' hb') hx
                      rw [this] at hun
                      cases hun
                    · exact hge
            have hf2 := hfact k hk hwin
            rw [← iop_congr hops] at hf2
            exact opStep_iop hT hr' ha' ho hw' hd hf2 fun E2 w2 hr2 hs2 ha2 => hnew k E2 w2 hk (hekN he) hr2 (hs'.trans hs2) ha2
  refine key ops.size (Array.replicate ops.size false) fr 0 E a _ (by simp) ?_ ?_ rfl (Nat.zero_le _) ?_ hrel0 ⟨Ext.refl _ _, by rw [h0]; exact Nat.le_refl _⟩ (by rw [h0]; exact ha) ?_
  · intro j o hj
    simp [Array.getElem?_replicate] at hj
    split at hj <;> simp at hj
  · intro t
    have : ∀ n, tmD ops vals fr (fun j => (Array.replicate ops.size false).getD j false) n t = fr.tm.tmp t := by
      intro n
      induction n with
      | zero => rfl
      | succ n ihn =>
        simp only [tmD]
        rw [if_neg, ihn]
        rintro ⟨h1, _⟩
        simp [Array.getElem?_replicate] at h1
        split at h1 <;> simp at h1
    exact (this _).symm
  · intro e he _
    simp [Array.getElem?_replicate, he]
  · have : ∀ n, cnt (fun j => (Array.replicate ops.size false).getD j false) n ≤ n := by
      intro n
      induction n with
      | zero => exact Nat.le_refl _
      | succ n ihn => simp only [cnt]; split <;> omega
    exact this _
end
end Sx
