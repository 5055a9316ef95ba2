/-
  No walk fails exactly where the one-pass rule says yes.
-/
import Derived.Test.YahagwAn
set_option linter.unusedVariables false
set_option linter.unusedSimpArgs false
namespace Go.Proofs.Yahagw

theorem noteF_ne (f : Fl) (x : Nat × Nat × Nat) : noteF f x ≠ none := by
  unfold noteF
  cases f with
  | none => simp
  | some y =>
    simp only
    by_cases h : lexB x y = true
    · rw [if_pos h]; simp
    · rw [if_neg h]; simp
theorem flt_none (o : IOp) (c : Nat → Nat) (i : Nat) (f : Fl) : ∀ K, flt o c i f K = none ↔ f = none ∧ ∀ p, p < K → c p ≠ 0 → ∃ q, stepM o p = .inl q
  | 0 => by simp [flt]
  | K + 1 => by
    have ih := flt_none o c i f K
    unfold flt
    by_cases hc : c K = 0
    · rw [if_pos hc, ih]
      constructor
      · rintro ⟨h1, h2⟩
        refine ⟨h1, fun p hp hcp => ?_⟩
        rcases Nat.lt_or_ge p K with h | h
        · exact h2 p h hcp
        · have : p = K := by omega
          subst this; exact absurd hc hcp
      · rintro ⟨h1, h2⟩
        exact ⟨h1, fun p hp hcp => h2 p (by omega) hcp⟩
    · rw [if_neg hc]
      cases hs : stepM o K with
      | inl q =>
        simp only
        rw [ih]
        constructor
        · rintro ⟨h1, h2⟩
          refine ⟨h1, fun p hp hcp => ?_⟩
          rcases Nat.lt_or_ge p K with h | h
          · exact h2 p h hcp
          · have : p = K := by omega
            subst this; exact ⟨q, hs⟩
        · rintro ⟨h1, h2⟩
          exact ⟨h1, fun p hp hcp => h2 p (by omega) hcp⟩
      | inr x =>
        obtain ⟨kd, h⟩ := x
        simp only
        constructor
        · intro h1; exact absurd h1 (noteF_ne _ _)
        · rintro ⟨_, h2⟩
          obtain ⟨q, hq⟩ := h2 K (by omega) hc
          rw [hs] at hq; cases hq
theorem lks_none (c : Nat → Nat) (i : Nat) (f : Fl) : ∀ K, lks c i f K = none ↔ f = none ∧ ∀ p, 0 < p → p < K → c p = 0
  | 0 => by simp [lks]
  | K + 1 => by
    have ih := lks_none c i f K
    unfold lks
    by_cases hc : 0 < K ∧ 0 < c K
    · rw [if_pos hc]
      constructor
      · intro h1; exact absurd h1 (noteF_ne _ _)
      · rintro ⟨_, h2⟩
        have := h2 K hc.1 (by omega)
        omega
    · rw [if_neg hc, ih]
      constructor
      · rintro ⟨h1, h2⟩
        refine ⟨h1, fun p h0 hp => ?_⟩
        rcases Nat.lt_or_ge p K with h | h
        · exact h2 p h0 h
        · have : p = K := by omega
          subst this; omega
      · rintro ⟨h1, h2⟩
        exact ⟨h1, fun p h0 hp => h2 p h0 (by omega)⟩

/-! ### one operation never brings two sets to one -/
theorem or_inj {m n h : Nat} (hm : m.testBit h = false) (hn : n.testBit h = false) (he : m ||| 2 ^ h = n ||| 2 ^ h) : m = n := by
  apply Nat.eq_of_testBit_eq
  intro i
  have := congrArg (fun x => x.testBit i) he
  simp only [Nat.testBit_or, Nat.testBit_two_pow] at this
  by_cases hi : h = i
  · subst hi; rw [hm, hn]
  · simpa [hi] using this
theorem xor_inj {m n h : Nat} (he : m ^^^ 2 ^ h = n ^^^ 2 ^ h) : m = n := by
  apply Nat.eq_of_testBit_eq
  intro i
  have := congrArg (fun x => x.testBit i) he
  simp only [Nat.testBit_xor, Nat.testBit_two_pow] at this
  revert this
  cases m.testBit i <;> cases n.testBit i <;> cases decide (h = i) <;> simp
theorem stepM_inj {o : IOp} {m n q : Nat} (h1 : stepM o m = .inl q) (h2 : stepM o n = .inl q) : m = n := by
  unfold stepM at h1 h2
  by_cases c1 : o.c = 1
  · rw [if_pos c1] at h1 h2
    split at h1
    · cases h1
    · split at h2
      · cases h2
      · rename_i a b
        simp only [Bool.not_eq_true] at a b
        cases h1
        exact or_inj a b (Sum.inl.inj h2).symm
  · rw [if_neg c1] at h1 h2
    by_cases c2 : o.c = 2
    · rw [if_pos c2] at h1 h2
      split at h1
      · split at h2
        · cases h1
          exact xor_inj (Sum.inl.inj h2).symm
        · cases h2
      · cases h1
    · rw [if_neg c2] at h1 h2
      split at h1
      · split at h2
        · split at h1
          · cases h1
          · split at h2
            · cases h2
            · rename_i a b
              simp only [Bool.not_eq_true] at a b
              cases h1
              exact xor_inj (or_inj a b (Sum.inl.inj h2).symm)
        · cases h2
      · cases h1

theorem goes_iff {o : IOp} {k m : Nat} : goes o k m = true ↔ stepM o k = .inl m := by
  unfold goes
  cases h : stepM o k with
  | inl q => simp
  | inr x => simp
theorem nxt_ge {o : IOp} {c : Nat → Nat} {p q : Nat} (hs : stepM o p = .inl q) : ∀ K, p < K → c p ≤ nxt o c K q
  | 0, h => by omega
  | K + 1, h => by
    unfold nxt
    rcases Nat.lt_or_ge p K with h' | h'
    · have := nxt_ge (c := c) hs K h'; omega
    · have : p = K := by omega
      subst this
      rw [if_pos (goes_iff.2 hs)]; omega
theorem nxt_zero {o : IOp} {c : Nat → Nat} {q : Nat} : ∀ K, (∀ p, p < K → stepM o p = .inl q → c p = 0) → nxt o c K q = 0
  | 0, _ => rfl
  | K + 1, h => by
    unfold nxt
    rw [nxt_zero K (fun p hp => h p (by omega))]
    split
    · rename_i hg; rw [h K (by omega) (goes_iff.1 hg)]
    · rfl
/-- at most one set leads to q -/
theorem nxt_one {o : IOp} {c : Nat → Nat} {p q : Nat} (hs : stepM o p = .inl q) : ∀ K, p < K → nxt o c K q = c p
  | 0, h => by omega
  | K + 1, h => by
    unfold nxt
    rcases Nat.lt_or_ge p K with h' | h'
    · rw [nxt_one hs K h', if_neg]
      · rfl
      · intro hg
        have := stepM_inj hs (goes_iff.1 hg)
        omega
    · have hpk : p = K := by omega
      subst hpk
      rw [if_pos (goes_iff.2 hs), nxt_zero p (fun r hr hrs => by have := stepM_inj hs hrs; omega)]
      omega

/-! ### two sets alive: some walk will fail -/
def Two (c : Nat → Nat) : Prop := ∃ p q, p < 256 ∧ q < 256 ∧ p ≠ q ∧ 0 < c p ∧ 0 < c q
def Doom (s : MS) : Prop := s.f ≠ none ∨ Two s.cur.cnt ∨ ∃ fr ∈ s.stk, fr.inE = true ∧ Two fr.t.cnt
def handlesOK (o : IOp) : Prop := o.a.toNat < 8 ∧ (o.b.toNat < 8 ∨ o.c = 1 ∨ o.c = 2)
theorem fb_handles {o : IOp} {st st' : List Bool} (h : fbStep o st = some st') (hc : o.c = 1 ∨ o.c = 2 ∨ o.c = 3) : handlesOK o ∧ st' = st := by
  unfold handlesOK
  rcases hc with c | c | c
  · simp [fbStep, c] at h
    obtain ⟨n, hn, h8⟩ := okH_nat h.1
    exact ⟨⟨by rw [hn]; simpa using h8, .inr (.inl c)⟩, h.2.symm⟩
  · simp [fbStep, c] at h
    obtain ⟨n, hn, h8⟩ := okH_nat h.1
    exact ⟨⟨by rw [hn]; simpa using h8, .inr (.inr c)⟩, h.2.symm⟩
  · simp [fbStep, c] at h
    obtain ⟨n, hn, h8⟩ := okH_nat h.1.1
    obtain ⟨n', hn', h8'⟩ := okH_nat h.1.2
    exact ⟨⟨by rw [hn]; simpa using h8, .inl (by rw [hn']; simpa using h8')⟩, h.2.symm⟩
theorem fb_code {o : IOp} {st st' : List Bool} (h : fbStep o st = some st') : o.c = 1 ∨ o.c = 2 ∨ o.c = 3 ∨ o.c = 4 ∨ o.c = 5 ∨ o.c = 6 ∨ o.c = 7 := by
  by_cases h1 : o.c = 1 ∨ o.c = 2
  · omega
  · by_cases h3 : o.c = 3
    · omega
    · by_cases h4 : o.c = 4
      · omega
      · by_cases h5 : o.c = 5
        · omega
        · by_cases h6 : o.c = 6
          · omega
          · by_cases h7 : o.c = 7
            · omega
            · simp [fbStep, h1, h3, h4, h5, h6, h7] at h
theorem two_step {o : IOp} {c : Nat → Nat} (hh : handlesOK o) (i : Nat) (f : Fl) (h : Two c) : flt o c i f 256 ≠ none ∨ Two (nxt o c 256) := by
  obtain ⟨p, q, hp, hq, hne, hcp, hcq⟩ := h
  cases hsp : stepM o p with
  | inr x =>
    left; intro hn
    obtain ⟨_, h2⟩ := (flt_none o c i f 256).1 hn
    obtain ⟨r, hr⟩ := h2 p hp (by omega)
    rw [hsp] at hr; cases hr
  | inl p' =>
    cases hsq : stepM o q with
    | inr x =>
      left; intro hn
      obtain ⟨_, h2⟩ := (flt_none o c i f 256).1 hn
      obtain ⟨r, hr⟩ := h2 q hq (by omega)
      rw [hsq] at hr; cases hr
    | inl q' =>
      right
      refine ⟨p', q', stepM_lt hh.1 hh.2 hp hsp, stepM_lt hh.1 hh.2 hq hsq, ?_, ?_, ?_⟩
      · intro he; subst he; exact hne (stepM_inj hsp hsq)
      · have := nxt_ge (c := c) hsp 256 hp; omega
      · have := nxt_ge (c := c) hsq 256 hq; omega
theorem two_leak {c : Nat → Nat} (i : Nat) (f : Fl) (h : Two c) : lks c i f 256 ≠ none := by
  obtain ⟨p, q, hp, hq, hne, hcp, hcq⟩ := h
  intro hn
  obtain ⟨_, h2⟩ := (lks_none c i f 256).1 hn
  rcases Nat.eq_zero_or_pos p with h0 | h0
  · have := h2 q (by omega) hq; omega
  · have := h2 p h0 hp; omega

theorem doom_go : ∀ (l : List IOp) (i n : Nat) (s : MS) (st : List Bool), fbGo l st i = -1 → s.stk.map (·.inE) = st → Doom s → lks (mGo l i s).cur.cnt n (mGo l i s).f 256 ≠ none
  | [], i, n, s, st, hwf, hst, hd => by
    rw [fbGo] at hwf
    have hst0 : st = [] := by
      cases st with
      | nil => rfl
      | cons b r => simp at hwf
    subst hst0
    have hstk : s.stk = [] := List.map_eq_nil_iff.1 hst
    rw [mGo]
    rcases hd with h | h | ⟨fr, hfr, _⟩
    · intro hn; exact h ((lks_none _ _ _ _).1 hn).1
    · exact two_leak n s.f h
    · rw [hstk] at hfr; cases hfr
  | o :: r, i, n, s, st, hwf, hst, hd => by
    rw [fbGo] at hwf
    cases hstep : fbStep o st with
    | none => rw [hstep] at hwf; simp at hwf
    | some st' =>
      rw [hstep] at hwf
      simp only at hwf
      rw [mGo]
      have h123 : (o.c = 1 ∨ o.c = 2 ∨ o.c = 3) → lks (mGo r (i + 1) (mStep o i s)).cur.cnt n (mGo r (i + 1) (mStep o i s)).f 256 ≠ none := by
        intro hc
        obtain ⟨hh, he⟩ := fb_handles hstep hc
        subst he
        refine doom_go r (i + 1) n _ st' hwf (by simp only [mStep, if_pos hc]; exact hst) ?_
        simp only [mStep, if_pos hc]
        rcases hd with h | h | h
        · left; intro hn; exact h ((flt_none _ _ _ _ _).1 hn).1
        · rcases two_step hh i s.f h with h' | h'
          · exact .inl h'
          · exact .inr (.inl h')
        · exact .inr (.inr h)
      rcases fb_code hstep with c | c | c | c | c | c | c
      · exact h123 (by omega)
      · exact h123 (by omega)
      · exact h123 (by omega)
      · have he : st' = st := by simp [fbStep, c] at hstep; exact hstep.symm
        subst he
        refine doom_go r (i + 1) n _ st' hwf (by simp [mStep, c]; exact hst) ?_
        simp only [mStep, c]
        simp
        rcases hd with h | h | h
        · left; intro hn; exact h ((lks_none _ _ _ _).1 hn).1
        · left; exact two_leak i s.f h
        · exact .inr (.inr h)
      · have he : false :: st = st' := by simp [fbStep, c] at hstep; exact hstep.2
        subst he
        refine doom_go r (i + 1) n _ (false :: st) hwf (by simp [mStep, c]; exact hst) ?_
        simp only [mStep, c]
        simp
        rcases hd with h | h | ⟨fr, h1, h2⟩
        · exact .inl h
        · exact .inr (.inl h)
        · exact .inr (.inr ⟨fr, by simp [h1], h2⟩)
      · cases hs : s.stk with
        | nil =>
          rw [hs] at hst; simp at hst; subst hst
          simp [fbStep, c] at hstep
        | cons fr rest =>
          rw [hs] at hst
          simp only [List.map_cons] at hst
          subst hst
          cases hin : fr.inE with
          | true => rw [hin] at hstep; simp [fbStep, c] at hstep
          | false =>
            rw [hin] at hstep
            have he : true :: rest.map (·.inE) = st' := by simpa [fbStep, c] using hstep
            subst he
            refine doom_go r (i + 1) n _ _ hwf (by simp [mStep, c, hs]) ?_
            simp only [mStep, c, hs]
            simp
            rcases hd with h | h | ⟨fr', h1, h2, h3⟩
            · exact .inl h
            · exact .inr (.inr ⟨_, List.mem_cons_self, rfl, h⟩)
            · rw [hs] at h1
              simp only [List.mem_cons] at h1
              rcases h1 with rfl | h1
              · rw [hin] at h2; cases h2
              · exact .inr (.inr ⟨fr', List.mem_cons_of_mem _ h1, h2, h3⟩)
      · cases hs : s.stk with
        | nil =>
          rw [hs] at hst; simp at hst; subst hst
          simp [fbStep, c] at hstep
        | cons fr rest =>
          rw [hs] at hst
          simp only [List.map_cons] at hst
          subst hst
          cases hin : fr.inE with
          | false => rw [hin] at hstep; simp [fbStep, c] at hstep
          | true =>
            rw [hin] at hstep
            have he : rest.map (·.inE) = st' := by simpa [fbStep, c] using hstep
            subst he
            refine doom_go r (i + 1) n _ _ hwf (by simp [mStep, c, hs]) ?_
            simp only [mStep, c, hs]
            simp
            rcases hd with h | ⟨p, q, hp, hq, hne, h1, h2⟩ | ⟨fr', h1, h2, h3⟩
            · exact .inl h
            · exact .inr (.inl ⟨p, q, hp, hq, hne, by simp only; omega, by simp only; omega⟩)
            · rw [hs] at h1
              simp only [List.mem_cons] at h1
              rcases h1 with rfl | h1
              · obtain ⟨p, q, hp, hq, hne, h1, h2⟩ := h3
                exact .inr (.inl ⟨p, q, hp, hq, hne, by simp only; omega, by simp only; omega⟩)
              · exact .inr (.inr ⟨fr', h1, h2, h3⟩)

/-! ### one set alive: the machine of the one-pass rule -/
def Sing (cur : Option Nat) (s : St) : Prop := match cur with
  | none => ∀ m, s.cnt m = 0
  | some m => m < 256 ∧ 0 < s.cnt m ∧ ∀ q, q ≠ m → s.cnt q = 0
def SRel : List SFr → List Fr → Prop
  | [], [] => True
  | (e, t) :: S, fr :: r => Sing e fr.e ∧ (fr.inE = true → Sing t fr.t) ∧ SRel S r
  | _, _ => False
theorem sing_step {o : IOp} {m : Nat} {s : St} (h : Sing (some m) s) {q : Nat} (hs : stepM o m = .inl q) (hh : handlesOK o) : Sing (some q) ⟨nxt o s.cnt 256, s.tot⟩ := by
  obtain ⟨h1, h2, h3⟩ := h
  refine ⟨stepM_lt hh.1 hh.2 h1 hs, ?_, ?_⟩
  · simp only; rw [nxt_one hs 256 h1]; exact h2
  · intro r hr
    simp only
    refine nxt_zero 256 fun p hp hps => ?_
    refine h3 p ?_
    intro hpm; subst hpm
    rw [hs] at hps; cases hps; exact hr rfl
theorem strict_go : ∀ (l : List IOp) (i n : Nat) (s : MS) (st : List Bool) (cur : Option Nat) (S : List SFr), fbGo l st i = -1 → s.stk.map (·.inE) = st → s.f = none → Sing cur s.cur → SRel S s.stk →
    (lks (mGo l i s).cur.cnt n (mGo l i s).f 256 = none ↔ smGo l cur S = true)
  | [], i, n, s, st, cur, S, hwf, hst, hf, hc, hS => by
    rw [mGo, lks_none, hf]
    cases cur with
    | none =>
      simp only [true_and, smGo]
      constructor
      · intro _; trivial
      · intro _ p _ _; exact hc p
    | some m =>
      obtain ⟨h1, h2, h3⟩ := hc
      simp only [true_and, smGo, decide_eq_true_eq]
      constructor
      · intro h
        rcases Nat.eq_zero_or_pos m with h0 | h0
        · exact h0
        · have := h m h0 h1; omega
      · rintro rfl p hp _
        exact h3 p (by omega)
  | o :: r, i, n, s, st, cur, S, hwf, hst, hf, hc, hS => by
    have hwf0 := hwf
    rw [fbGo] at hwf
    cases hstep : fbStep o st with
    | none => rw [hstep] at hwf; simp at hwf
    | some st' =>
      rw [hstep] at hwf
      simp only at hwf
      rw [show smGo (o :: r) cur S = (match smStep o cur S with | none => false | some (c', S') => smGo r c' S') from rfl]
      have doomed : Doom (mStep o i s) → (mStep o i s).stk.map (·.inE) = st' → (lks (mGo (o :: r) i s).cur.cnt n (mGo (o :: r) i s).f 256 = none ↔ False) := fun hd hst' => by
        rw [mGo]
        exact ⟨fun h => doom_go r (i + 1) n _ st' hwf hst' hd h, False.elim⟩
      have h123 : (o.c = 1 ∨ o.c = 2 ∨ o.c = 3) → (lks (mGo (o :: r) i s).cur.cnt n (mGo (o :: r) i s).f 256 = none ↔ (match smStep o cur S with | none => false | some (c', S') => smGo r c' S') = true) := by
        intro hcc
        obtain ⟨hh, he⟩ := fb_handles hstep hcc
        subst he
        simp only [smStep, if_pos hcc]
        cases cur with
        | none =>
          rw [mGo]
          refine strict_go r (i + 1) n _ st' none S hwf (by simp only [mStep, if_pos hcc]; exact hst) ?_ ?_ (by simp only [mStep, if_pos hcc]; exact hS)
          · simp only [mStep, if_pos hcc]
            exact (flt_none _ _ _ _ _).2 ⟨hf, fun p _ hcp => absurd (hc p) hcp⟩
          · simp only [mStep, if_pos hcc]
            intro m; simp only; exact nxt_zero 256 fun p _ _ => hc p
        | some m =>
          cases hs : stepM o m with
          | inl q =>
            simp only [hs]
            rw [mGo]
            refine strict_go r (i + 1) n _ st' (some q) S hwf (by simp only [mStep, if_pos hcc]; exact hst) ?_ ?_ (by simp only [mStep, if_pos hcc]; exact hS)
            · simp only [mStep, if_pos hcc]
              refine (flt_none _ _ _ _ _).2 ⟨hf, fun p _ hcp => ?_⟩
              by_cases hpm : p = m
              · subst hpm; exact ⟨q, hs⟩
              · exact absurd (hc.2.2 p hpm) hcp
            · simp only [mStep, if_pos hcc]; exact sing_step hc hs hh
          | inr x =>
            simp only [hs]
            rw [doomed ?_ (by simp only [mStep, if_pos hcc]; exact hst)]
            · simp
            · left
              simp only [mStep, if_pos hcc]
              intro hn
              obtain ⟨_, h2⟩ := (flt_none _ _ _ _ _).1 hn
              obtain ⟨q, hq⟩ := h2 m hc.1 (by have := hc.2.1; omega)
              rw [hs] at hq; cases hq
      rcases fb_code hstep with c | c | c | c | c | c | c
      · exact h123 (by omega)
      · exact h123 (by omega)
      · exact h123 (by omega)
      · have he : st' = st := by simp [fbStep, c] at hstep; exact hstep.symm
        subst he
        have hst' : (mStep o i s).stk.map (·.inE) = st' := by simp [mStep, c]; exact hst
        have hS' : SRel S (mStep o i s).stk := by simp [mStep, c]; exact hS
        simp only [smStep, c]
        simp
        cases cur with
        | none =>
          rw [mGo]
          refine strict_go r (i + 1) n _ st' none S hwf hst' ?_ ?_ hS'
          · simp [mStep, c]; exact (lks_none _ _ _ _).2 ⟨hf, fun p _ _ => hc p⟩
          · simp [mStep, c]; intro m; rfl
        | some m =>
          by_cases hz : m = 0
          · subst hz
            simp
            rw [mGo]
            refine strict_go r (i + 1) n _ st' none S hwf hst' ?_ ?_ hS'
            · simp [mStep, c]; exact (lks_none _ _ _ _).2 ⟨hf, fun p h0 _ => hc.2.2 p (by omega)⟩
            · simp [mStep, c]; intro m; rfl
          · simp [hz]
            intro hn
            refine (doomed ?_ hst').1 hn
            left
            simp [mStep, c]
            intro hn
            obtain ⟨_, h2⟩ := (lks_none _ _ _ _).1 hn
            have := h2 m (by omega) hc.1
            have := hc.2.1
            omega
      · have he : false :: st = st' := by simp [fbStep, c] at hstep; exact hstep.2
        subst he
        simp only [smStep, c]
        simp
        rw [mGo]
        exact strict_go r (i + 1) n _ (false :: st) cur ((cur, none) :: S) hwf (by simp [mStep, c]; exact hst) (by simp [mStep, c]; exact hf) (by simp [mStep, c]; exact hc) (by simp [mStep, c]; exact ⟨hc, by simp, hS⟩)
      · cases hs : s.stk with
        | nil =>
          rw [hs] at hst; simp at hst; subst hst
          simp [fbStep, c] at hstep
        | cons fr rest =>
          rw [hs] at hst hS
          simp only [List.map_cons] at hst
          subst hst
          cases hin : fr.inE with
          | true => rw [hin] at hstep; simp [fbStep, c] at hstep
          | false =>
            rw [hin] at hstep
            have he : true :: rest.map (·.inE) = st' := by simpa [fbStep, c] using hstep
            subst he
            cases S with
            | nil => exact hS.elim
            | cons f S' =>
              obtain ⟨e, t⟩ := f
              obtain ⟨hS1, _, hS3⟩ := hS
              simp only [smStep, c]
              simp
              rw [mGo]
              exact strict_go r (i + 1) n _ _ e ((e, cur) :: S') hwf (by simp [mStep, c, hs]) (by simp [mStep, c, hs]; exact hf) (by simp [mStep, c, hs]; exact hS1) (by simp [mStep, c, hs]; exact ⟨hS1, fun _ => hc, hS3⟩)
      · cases hs : s.stk with
        | nil =>
          rw [hs] at hst; simp at hst; subst hst
          simp [fbStep, c] at hstep
        | cons fr rest =>
          rw [hs] at hst hS
          simp only [List.map_cons] at hst
          subst hst
          cases hin : fr.inE with
          | false => rw [hin] at hstep; simp [fbStep, c] at hstep
          | true =>
            rw [hin] at hstep
            have he : rest.map (·.inE) = st' := by simpa [fbStep, c] using hstep
            subst he
            cases S with
            | nil => exact hS.elim
            | cons f S' =>
              obtain ⟨e, t⟩ := f
              obtain ⟨_, hS2, hS3⟩ := hS
              have ht := hS2 hin
              have hst' : (mStep o i s).stk.map (·.inE) = rest.map (·.inE) := by simp [mStep, c, hs]
              have hS' : SRel S' (mStep o i s).stk := by simp [mStep, c, hs]; exact hS3
              have hf' : (mStep o i s).f = none := by simp [mStep, c, hs]; exact hf
              simp only [smStep, c]
              simp
              cases t with
              | none =>
                simp only
                rw [mGo]
                refine strict_go r (i + 1) n _ _ cur S' hwf hst' hf' ?_ hS'
                simp [mStep, c, hs]
                cases cur with
                | none => intro m; simp only; rw [hc m, ht m]
                | some m => exact ⟨hc.1, by have := hc.2.1; simp only; omega, fun q hq => by simp only; rw [hc.2.2 q hq, ht q]⟩
              | some m =>
                cases cur with
                | none =>
                  simp only
                  rw [mGo]
                  refine strict_go r (i + 1) n _ _ (some m) S' hwf hst' hf' ?_ hS'
                  simp [mStep, c, hs]
                  exact ⟨ht.1, by have := ht.2.1; simp only; omega, fun q hq => by simp only; rw [ht.2.2 q hq, hc q]⟩
                | some m' =>
                  by_cases hm : m = m'
                  · subst hm
                    simp
                    rw [mGo]
                    refine strict_go r (i + 1) n _ _ (some m) S' hwf hst' hf' ?_ hS'
                    simp [mStep, c, hs]
                    exact ⟨ht.1, by have := ht.2.1; simp only; omega, fun q hq => by simp only; rw [ht.2.2 q hq, hc.2.2 q hq]⟩
                  · simp [hm]
                    intro hn
                    refine (doomed ?_ hst').1 hn
                    right; left
                    simp [mStep, c, hs]
                    exact ⟨m, m', ht.1, hc.1, hm, by have := ht.2.1; simp only; omega, by have := hc.2.1; simp only; omega⟩

theorem analyze_ok (L : List IOp) : (analyzeR L).ok = strictM L := by
  unfold analyzeR strictM
  by_cases h : 0 ≤ firstBad L
  · rw [if_pos h]
    have : ¬ firstBad L < 0 := by omega
    simp [this, badRep]
  · rw [if_neg h]
    have hlt : firstBad L < 0 := by omega
    have hwf : fbGo L [] 0 = -1 := fbGo_neg L [] 0 hlt
    have := strict_go L 0 L.length ms0 [] (some 0) [] hwf rfl rfl ⟨by omega, by simp [ms0, one0], fun q hq => by simp [ms0, one0, hq]⟩ trivial
    unfold mRep repOf
    simp only [hlt, decide_true, Bool.true_and]
    cases hl : lks (mGo L 0 ms0).cur.cnt L.length (mGo L 0 ms0).f 256 with
    | none => rw [hl] at this; simp only; exact (this.1 rfl).symm
    | some x =>
      rw [hl] at this
      simp only
      cases hsm : smGo L (some 0) [] with
      | false => rfl
      | true => have := this.2 hsm; cases this
end Go.Proofs.Yahagw
