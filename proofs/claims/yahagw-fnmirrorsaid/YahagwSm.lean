/-
  The one-pass rule as a machine: what is held now (none: nothing runs here), and a stack of (entry, what the then-part left).
-/
import Derived.Test.YahagwPlain
set_option linter.unusedVariables false
set_option linter.unusedSimpArgs false
namespace Go.Proofs.Yahagw

abbrev SFr := Option Nat × Option Nat
def smStep (o : IOp) (cur : Option Nat) (S : List SFr) : Option (Option Nat × List SFr) :=
  if o.c = 1 ∨ o.c = 2 ∨ o.c = 3 then (match cur with
    | none => some (none, S)
    | some m => match stepM o m with
      | .inl m' => some (some m', S)
      | .inr _ => none)
  else if o.c = 4 then (match cur with
    | none => some (none, S)
    | some m => if m = 0 then some (none, S) else none)
  else if o.c = 5 then some (cur, (cur, none) :: S)
  else if o.c = 6 then (match S with
    | (e, _) :: S' => some (e, (e, cur) :: S')
    | [] => none)
  else (match S with
    | (_, none) :: S' => some (cur, S')
    | (_, some m) :: S' => (match cur with
      | none => some (some m, S')
      | some m' => if m = m' then some (some m', S') else none)
    | [] => none)
def smGo : List IOp → Option Nat → List SFr → Bool
  | [], cur, _ => (match cur with | none => true | some m => decide (m = 0))
  | o :: r, cur, S => match smStep o cur S with
    | none => false
    | some (c', S') => smGo r c' S'
def strictM (L : List IOp) : Bool := decide (firstBad L < 0) && smGo L (some 0) []

theorem drop_cons {L : List IOp} {k : Nat} {o : IOp} (ho : L[k]? = some o) : L.drop k = o :: L.drop (k + 1) := by
  have hk : k < L.length := (List.getElem?_eq_some_iff.1 ho).1
  rw [List.drop_eq_getElem_cons hk]
  rw [List.getElem?_eq_getElem hk] at ho
  simp at ho; rw [ho]
theorem smGo_none {L : List IOp} {k : Nat} {o : IOp} (ho : L[k]? = some o) {cur : Option Nat} {S : List SFr} (h : smStep o cur S = none) : smGo (L.drop k) cur S = false := by
  rw [drop_cons ho, smGo, h]
theorem smGo_some {L : List IOp} {k : Nat} {o : IOp} (ho : L[k]? = some o) {cur cur' : Option Nat} {S S' : List SFr} (h : smStep o cur S = some (cur', S')) :
    smGo (L.drop k) cur S = smGo (L.drop (k + 1)) cur' S' := by
  rw [drop_cons ho, smGo, h]

/-- What a block's strict pass says, in the machine's words. -/
def SB (L : List IOp) (st : List Bool) (i : Nat) (cur : Option Nat) (ok : Bool) (j : Nat) (cur' : Option Nat) : Prop :=
  i ≤ j ∧ j ≤ L.length ∧ (ok = false → ∀ S, smGo (L.drop i) cur S = false) ∧
  (ok = true → (∀ S, smGo (L.drop i) cur S = smGo (L.drop j) cur' S) ∧ fbGo (L.drop j) st j = -1 ∧ (∀ o, L[j]? = some o → o.c = 6 ∨ o.c = 7))
def curOf (on : Bool) (m : Nat) : Option Nat := if on = true then some m else none

/-! ### impl.Strict's machine runs the same pass -/
def FRel : List Bool → List SFr → List (Nat × Nat × Bool) → Prop
  | [], [], [] => True
  | b :: st, (e, t) :: S, (en, ts, tst) :: fr => e = some en ∧ (b = true → t = if tst = true then none else some ts) ∧ FRel st S fr
  | _, _, _ => False
def RSk : Nat → List Bool → List SFr → List (Nat × Nat × Bool) → Prop
  | 0, st, S, fr => FRel st S fr
  | k + 1, b :: st, (e, t) :: S, fr => e = none ∧ (b = true → t = none) ∧ RSk k st S fr
  | _ + 1, _, _, _ => False

theorem isGo_smGo : ∀ (l : List IOp) (s : IS) (st : List Bool) (S : List SFr) (i : Nat), fbGo l st i = -1 → RSk s.skip st S s.fr → (s.stopped = false → s.skip = 0) →
    isGo l s = smGo l (curOf (!s.stopped) s.set) S
  | [], s, st, S, i, _, _, _ => by
    obtain ⟨set, stopped, skip, fr⟩ := s
    cases stopped <;> simp [isGo, smGo, curOf]
  | o :: r, ⟨set, stopped, skip, fr⟩, st, S, i, hwf, hrs, hsk => by
    rw [isGo, smGo]
    rw [fbGo] at hwf
    simp only at hrs hsk
    cases hstep : fbStep o st with
    | none => rw [hstep] at hwf; simp at hwf
    | some st' =>
      rw [hstep] at hwf
      simp only at hwf
      have hc : o.c = 1 ∨ o.c = 2 ∨ o.c = 3 ∨ o.c = 4 ∨ o.c = 5 ∨ o.c = 6 ∨ o.c = 7 := by
        by_cases h1 : o.c = 1 ∨ o.c = 2
        · omega
        · by_cases h3 : o.c = 3
          · omega
          · by_cases h4 : o.c = 4
            · omega
            · by_cases h5 : o.c = 5
              · omega
              · by_cases h6 : o.c = 6
                · omega
                · by_cases h7 : o.c = 7
                  · omega
                  · simp [fbStep, h1, h3, h4, h5, h6, h7] at hstep
      cases stopped with
      | true =>
        rcases hc with c | c | c | c | c | c | c
        · have : st = st' := by simp [fbStep, c] at hstep; exact hstep.2
          subst this
          simp only [isStep, smStep, c, curOf]
          simp
          exact isGo_smGo r _ st S _ hwf hrs (by simp)
        · have : st = st' := by simp [fbStep, c] at hstep; exact hstep.2
          subst this
          simp only [isStep, smStep, c, curOf]
          simp
          exact isGo_smGo r _ st S _ hwf hrs (by simp)
        · have : st = st' := by simp [fbStep, c] at hstep; exact hstep.2
          subst this
          simp only [isStep, smStep, c, curOf]
          simp
          exact isGo_smGo r _ st S _ hwf hrs (by simp)
        · have : st = st' := by simp [fbStep, c] at hstep; exact hstep
          subst this
          simp only [isStep, smStep, c, curOf]
          simp
          exact isGo_smGo r _ st S _ hwf hrs (by simp)
        · have : false :: st = st' := by simp [fbStep, c] at hstep; exact hstep.2
          subst this
          simp only [isStep, smStep, c, curOf]
          simp
          exact isGo_smGo r ⟨set, true, skip + 1, fr⟩ (false :: st) ((none, none) :: S) _ hwf ⟨rfl, by simp, hrs⟩ (by simp)
        · cases st with
          | nil => simp [fbStep, c] at hstep
          | cons b s =>
            cases b with
            | true => simp [fbStep, c] at hstep
            | false =>
              have : true :: s = st' := by simpa [fbStep, c] using hstep
              subst this
              cases skip with
              | succ q =>
                cases S with
                | nil => exact hrs.elim
                | cons f S' =>
                  obtain ⟨e, t⟩ := f
                  obtain ⟨he, _, hr⟩ := hrs
                  subst he
                  simp only [isStep, smStep, c, curOf]
                  simp
                  exact isGo_smGo r ⟨set, true, q + 1, fr⟩ (true :: s) ((none, none) :: S') _ hwf ⟨rfl, by simp, hr⟩ (by simp)
              | zero =>
                cases S with
                | nil => exact hrs.elim
                | cons f S' =>
                  obtain ⟨e, t⟩ := f
                  cases fr with
                  | nil => exact hrs.elim
                  | cons f2 fr' =>
                    obtain ⟨en, ts, tst⟩ := f2
                    obtain ⟨he, _, hr⟩ := hrs
                    subst he
                    simp only [isStep, smStep, c, curOf, isAct]
                    simp
                    exact isGo_smGo r ⟨en, false, 0, (en, set, true) :: fr'⟩ (true :: s) ((some en, none) :: S') _ hwf ⟨rfl, by simp, hr⟩ (by simp)
        · cases st with
          | nil => simp [fbStep, c] at hstep
          | cons b s =>
            cases b with
            | false => simp [fbStep, c] at hstep
            | true =>
              have : s = st' := by simpa [fbStep, c] using hstep
              subst this
              cases skip with
              | succ q =>
                cases S with
                | nil => exact hrs.elim
                | cons f S' =>
                  obtain ⟨e, t⟩ := f
                  obtain ⟨he, ht, hr⟩ := hrs
                  have ht' := ht rfl
                  subst he; subst ht'
                  simp only [isStep, smStep, c, curOf]
                  simp
                  exact isGo_smGo r ⟨set, true, q, fr⟩ s S' _ hwf hr (by simp)
              | zero =>
                cases S with
                | nil => exact hrs.elim
                | cons f S' =>
                  obtain ⟨e, t⟩ := f
                  cases fr with
                  | nil => exact hrs.elim
                  | cons f2 fr' =>
                    obtain ⟨en, ts, tst⟩ := f2
                    obtain ⟨he, ht, hr⟩ := hrs
                    have ht' := ht rfl
                    subst he; subst ht'
                    cases tst
                    · simp only [isStep, smStep, c, curOf, isAct]
                      simp
                      exact isGo_smGo r ⟨ts, false, 0, fr'⟩ s S' _ hwf hr (by simp)
                    · simp only [isStep, smStep, c, curOf, isAct]
                      simp
                      exact isGo_smGo r ⟨set, true, 0, fr'⟩ s S' _ hwf hr (by simp)
      | false =>
        have hsk0 := hsk rfl
        subst hsk0
        rcases hc with c | c | c | c | c | c | c
        · have : st = st' := by simp [fbStep, c] at hstep; exact hstep.2
          subst this
          simp only [isStep, smStep, c, curOf, isAct]
          simp
          cases stepM o set with
          | inl m => exact isGo_smGo r ⟨m, false, 0, fr⟩ st S _ hwf hrs (by simp)
          | inr _ => rfl
        · have : st = st' := by simp [fbStep, c] at hstep; exact hstep.2
          subst this
          simp only [isStep, smStep, c, curOf, isAct]
          simp
          cases stepM o set with
          | inl m => exact isGo_smGo r ⟨m, false, 0, fr⟩ st S _ hwf hrs (by simp)
          | inr _ => rfl
        · have : st = st' := by simp [fbStep, c] at hstep; exact hstep.2
          subst this
          simp only [isStep, smStep, c, curOf, isAct]
          simp
          cases stepM o set with
          | inl m => exact isGo_smGo r ⟨m, false, 0, fr⟩ st S _ hwf hrs (by simp)
          | inr _ => rfl
        · have : st = st' := by simp [fbStep, c] at hstep; exact hstep
          subst this
          simp only [isStep, smStep, c, curOf, isAct]
          simp
          by_cases hz : set = 0
          · simp [hz]
            exact isGo_smGo r ⟨0, true, 0, fr⟩ st S _ hwf hrs (by simp)
          · simp [hz]
        · have : false :: st = st' := by simp [fbStep, c] at hstep; exact hstep.2
          subst this
          simp only [isStep, smStep, c, curOf, isAct]
          simp
          exact isGo_smGo r ⟨set, false, 0, (set, 0, false) :: fr⟩ (false :: st) ((some set, none) :: S) _ hwf ⟨rfl, by simp, hrs⟩ (by simp)
        · cases st with
          | nil => simp [fbStep, c] at hstep
          | cons b s =>
            cases b with
            | true => simp [fbStep, c] at hstep
            | false =>
              have : true :: s = st' := by simpa [fbStep, c] using hstep
              subst this
              cases S with
              | nil => exact hrs.elim
              | cons f S' =>
                obtain ⟨e, t⟩ := f
                cases fr with
                | nil => exact hrs.elim
                | cons f2 fr' =>
                  obtain ⟨en, ts, tst⟩ := f2
                  obtain ⟨he, _, hr⟩ := hrs
                  subst he
                  simp only [isStep, smStep, c, curOf, isAct]
                  simp
                  exact isGo_smGo r ⟨en, false, 0, (en, set, false) :: fr'⟩ (true :: s) ((some en, some set) :: S') _ hwf ⟨rfl, by simp, hr⟩ (by simp)
        · cases st with
          | nil => simp [fbStep, c] at hstep
          | cons b s =>
            cases b with
            | false => simp [fbStep, c] at hstep
            | true =>
              have : s = st' := by simpa [fbStep, c] using hstep
              subst this
              cases S with
              | nil => exact hrs.elim
              | cons f S' =>
                obtain ⟨e, t⟩ := f
                cases fr with
                | nil => exact hrs.elim
                | cons f2 fr' =>
                  obtain ⟨en, ts, tst⟩ := f2
                  obtain ⟨he, ht, hr⟩ := hrs
                  have ht' := ht rfl
                  subst he; subst ht'
                  cases tst
                  · simp only [isStep, smStep, c, curOf, isAct]
                    simp
                    by_cases hts : ts = set
                    · simp [hts]
                      exact isGo_smGo r ⟨set, false, 0, fr'⟩ s S' _ hwf hr (by simp)
                    · simp [hts]
                  · simp only [isStep, smStep, c, curOf, isAct]
                    simp
                    exact isGo_smGo r ⟨set, false, 0, fr'⟩ s S' _ hwf hr (by simp)
theorem implStrict_eq (L : List IOp) : implStrict L = strictM L := by
  unfold implStrict strictM
  by_cases h : firstBad L < 0
  · have hwf : fbGo L [] 0 = -1 := fbGo_neg L [] 0 h
    rw [isGo_smGo L ⟨0, false, 0, []⟩ [] [] 0 hwf trivial (by simp)]
    rfl
  · simp [h]
end Go.Proofs.Yahagw
