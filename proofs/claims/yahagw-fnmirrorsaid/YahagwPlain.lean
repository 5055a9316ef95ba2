/-
  The plain functions: no Go in sight.
-/
set_option linter.unusedVariables false
namespace Go.Proofs.Yahagw

structure IOp where
  c : Int
  a : Int
  b : Int

def okH (h : Int) : Bool := decide (0 ≤ h) && decide (h < 8)

/-! ### well-formedness by a stack (impl.firstBad) -/
def fbStep (o : IOp) (st : List Bool) : Option (List Bool) :=
  if o.c = 1 ∨ o.c = 2 then (if okH o.a = true then some st else none)
  else if o.c = 3 then (if okH o.a = true ∧ okH o.b = true then some st else none)
  else if o.c = 4 then some st
  else if o.c = 5 then (if 1000 ≤ st.length then none else some (false :: st))
  else if o.c = 6 then (match st with | false :: s => some (true :: s) | _ => none)
  else if o.c = 7 then (match st with | true :: s => some s | _ => none)
  else none

def fbGo : List IOp → List Bool → Nat → Int
  | [], st, i => if 0 < st.length then (i : Int) else -1
  | o :: r, st, i => match fbStep o st with
    | none => (i : Int)
    | some st' => fbGo r st' (i + 1)
def firstBad (L : List IOp) : Int := fbGo L [] 0

/-! ### what a block's parse says (spec.parseBlock), in the stack's words -/
def PB (L : List IOp) (i d j : Nat) (bad : Int) : Prop :=
  i ≤ j ∧ j ≤ L.length ∧
  ((0 ≤ bad ∧ ∀ st : List Bool, st.length = d → fbGo (L.drop i) st i = bad) ∨
   (bad = -1 ∧ (∀ st : List Bool, st.length = d → fbGo (L.drop i) st i = fbGo (L.drop j) st j) ∧ (∀ o, L[j]? = some o → o.c = 6 ∨ o.c = 7)))
theorem fbGo_at {L : List IOp} {k : Nat} {o : IOp} (ho : L[k]? = some o) (st : List Bool) :
    fbGo (L.drop k) st k = match fbStep o st with | none => (k : Int) | some st' => fbGo (L.drop (k + 1)) st' (k + 1) := by
  have hk : k < L.length := (List.getElem?_eq_some_iff.1 ho).1
  have hd : L.drop k = o :: L.drop (k + 1) := by
    rw [List.drop_eq_getElem_cons hk]
    rw [List.getElem?_eq_getElem hk] at ho
    simp at ho; rw [ho]
  rw [hd, fbGo]
theorem fbGo_none {L : List IOp} {k : Nat} {o : IOp} (ho : L[k]? = some o) {st : List Bool} (h : fbStep o st = none) : fbGo (L.drop k) st k = (k : Int) := by
  rw [fbGo_at ho, h]
theorem fbGo_some {L : List IOp} {k : Nat} {o : IOp} (ho : L[k]? = some o) {st st' : List Bool} (h : fbStep o st = some st') : fbGo (L.drop k) st k = fbGo (L.drop (k + 1)) st' (k + 1) := by
  rw [fbGo_at ho, h]
theorem fbGo_end (L : List IOp) (st : List Bool) : fbGo (L.drop L.length) st L.length = if 0 < st.length then (L.length : Int) else -1 := by
  rw [List.drop_length, fbGo]

/-! ### one operation on a held set: a new set, or a failure (kind, handle) -/
def stepM (o : IOp) (m : Nat) : Nat ⊕ (Nat × Nat) :=
  if o.c = 1 then (if m.testBit o.a.toNat = true then .inr (2, o.a.toNat) else .inl (m ||| 2 ^ o.a.toNat))
  else if o.c = 2 then (if m.testBit o.a.toNat = true then .inl (m ^^^ 2 ^ o.a.toNat) else .inr (1, o.a.toNat))
  else (if m.testBit o.a.toNat = true then (if (m ^^^ 2 ^ o.a.toNat).testBit o.b.toNat = true then .inr (2, o.b.toNat) else .inl ((m ^^^ 2 ^ o.a.toNat) ||| 2 ^ o.b.toNat)) else .inr (1, o.a.toNat))

/-! ### impl.Strict's own machine -/
structure IS where
  set : Nat
  stopped : Bool
  skip : Nat
  fr : List (Nat × Nat × Bool)
def isAct (o : IOp) (s : IS) : Option IS :=
  if o.c = 1 ∨ o.c = 2 ∨ o.c = 3 then (match stepM o s.set with | .inl m => some { s with set := m } | .inr _ => none)
  else if o.c = 4 then (if s.set = 0 then some { s with stopped := true, skip := 0 } else none)
  else if o.c = 5 then some { s with fr := (s.set, 0, false) :: s.fr }
  else if o.c = 6 then (match s.fr with | (e, _, _) :: r => some { set := e, stopped := false, skip := 0, fr := (e, s.set, s.stopped) :: r } | [] => none)
  else (match s.fr with
    | (_, ts, tst) :: r =>
      if tst = true then some { s with skip := 0, fr := r }
      else if s.stopped = true then some { set := ts, stopped := false, skip := 0, fr := r }
      else if ts = s.set then some { s with skip := 0, fr := r } else none
    | [] => none)
def isStep (o : IOp) (s : IS) : Option IS :=
  if s.stopped = true then
    (if o.c = 5 then some { s with skip := s.skip + 1 }
     else if o.c = 7 ∧ 0 < s.skip then some { s with skip := s.skip - 1 }
     else if o.c = 6 ∧ 0 < s.skip then some s
     else if o.c = 6 ∨ o.c = 7 then isAct o s
     else some s)
  else isAct o s
def isGo : List IOp → IS → Bool
  | [], s => s.stopped || decide (s.set = 0)
  | o :: r, s => match isStep o s with
    | none => false
    | some s' => isGo r s'
def implStrict (L : List IOp) : Bool := decide (firstBad L < 0) && isGo L ⟨0, false, 0, []⟩
theorem isGo_none {L : List IOp} {k : Nat} {o : IOp} (ho : L[k]? = some o) {s : IS} (h : isStep o s = none) : isGo (L.drop k) s = false := by
  have hk : k < L.length := (List.getElem?_eq_some_iff.1 ho).1
  have hd : L.drop k = o :: L.drop (k + 1) := by
    rw [List.drop_eq_getElem_cons hk]
    rw [List.getElem?_eq_getElem hk] at ho
    simp at ho; rw [ho]
  rw [hd, isGo, h]
theorem isGo_some {L : List IOp} {k : Nat} {o : IOp} (ho : L[k]? = some o) {s s' : IS} (h : isStep o s = some s') : isGo (L.drop k) s = isGo (L.drop (k + 1)) s' := by
  have hk : k < L.length := (List.getElem?_eq_some_iff.1 ho).1
  have hd : L.drop k = o :: L.drop (k + 1) := by
    rw [List.drop_eq_getElem_cons hk]
    rw [List.getElem?_eq_getElem hk] at ho
    simp at ho; rw [ho]
  rw [hd, isGo, h]
/-- In a well-formed rest the next operation is one that the stack takes. -/
theorem wf_step {L : List IOp} {k : Nat} {o : IOp} (ho : L[k]? = some o) {st : List Bool} (h : fbGo (L.drop k) st k = -1) :
    ∃ st', fbStep o st = some st' ∧ fbGo (L.drop (k + 1)) st' (k + 1) = -1 := by
  cases hs : fbStep o st with
  | none => rw [fbGo_none ho hs] at h; omega
  | some st' => exact ⟨st', rfl, by rw [fbGo_some ho hs] at h; exact h⟩
theorem fbGo_neg : ∀ (l : List IOp) (st : List Bool) (i : Nat), fbGo l st i < 0 → fbGo l st i = -1
  | [], st, i, h => by
    rw [fbGo] at h ⊢
    by_cases hs : 0 < st.length
    · rw [if_pos hs] at h; omega
    · rw [if_neg hs]
  | o :: r, st, i, h => by
    rw [fbGo] at h ⊢
    cases hs : fbStep o st with
    | none => rw [hs] at h; simp at h; omega
    | some st' => rw [hs] at h; exact fbGo_neg r st' (i + 1) h
theorem okH_nat {h : Int} (hh : okH h = true) : ∃ n : Nat, h = (n : Int) ∧ n < 8 := by
  simp only [okH, Bool.and_eq_true, decide_eq_true_eq] at hh
  exact ⟨h.toNat, by omega, by omega⟩
theorem pow_lt8 {n : Nat} (h : n < 8) : 2 ^ n < 256 := by
  have : 2 ^ n < 2 ^ 8 := Nat.pow_lt_pow_right (by omega) h
  simpa using this
theorem or_lt8 {m n : Nat} (hm : m < 256) (h : n < 8) : m ||| 2 ^ n < 256 := Nat.or_lt_two_pow (n := 8) hm (pow_lt8 h)
theorem xor_lt8 {m n : Nat} (hm : m < 256) (h : n < 8) : m ^^^ 2 ^ n < 256 := Nat.xor_lt_two_pow (n := 8) hm (pow_lt8 h)
theorem stepM_lt {o : IOp} {m m' : Nat} (ha : o.a.toNat < 8) (hb : o.b.toNat < 8 ∨ o.c = 1 ∨ o.c = 2) (hm : m < 256) (h : stepM o m = .inl m') : m' < 256 := by
  unfold stepM at h
  have h1 := or_lt8 hm ha
  have h2 := xor_lt8 hm ha
  by_cases c1 : o.c = 1
  · rw [if_pos c1] at h
    split at h
    · cases h
    · cases h; exact h1
  · rw [if_neg c1] at h
    by_cases c2 : o.c = 2
    · rw [if_pos c2] at h
      split at h
      · cases h; exact h2
      · cases h
    · rw [if_neg c2] at h
      have hb' : o.b.toNat < 8 := by rcases hb with h | h | h <;> first | exact h | exact absurd h ‹_›
      split at h
      · split at h
        · cases h
        · cases h; exact or_lt8 h2 hb'
      · cases h
end Go.Proofs.Yahagw
