/-
  What every report keeps: paths, clean walks, the first failure's place.
-/
import Derived.Test.YahagwModelP
import Derived.Test.YahagwIStrict
set_option linter.unusedVariables false
set_option linter.unusedSimpArgs false
namespace Go.Proofs.Yahagw

/-! ### a law kept along the machine -/
theorem mGo_inv {L : List IOp} (I : Nat → MS → List Bool → Prop)
    (step : ∀ i o s st st', L[i]? = some o → fbStep o st = some st' → I i s st → I (i + 1) (mStep o i s) st') :
    ∀ (l : List IOp) (i : Nat) (s : MS) (st : List Bool), L.drop i = l → i + l.length = L.length → fbGo l st i = -1 → I i s st → I L.length (mGo l i s) []
  | [], i, s, st, hl, hn, hwf, h => by
    rw [fbGo] at hwf
    cases st with
    | nil => simp only [List.length_nil, Nat.add_zero] at hn; rw [← hn]; exact h
    | cons b r => simp at hwf
  | o :: r, i, s, st, hl, hn, hwf, h => by
    have ho : L[i]? = some o := by
      have : (L.drop i)[0]? = some o := by rw [hl]; rfl
      simpa using this
    have hr : L.drop (i + 1) = r := by rw [← List.drop_drop, hl]; rfl
    rw [← hl] at hwf
    obtain ⟨st', hs, hwf'⟩ := wf_step ho hwf
    rw [hr] at hwf'
    rw [mGo]
    exact mGo_inv I step r (i + 1) (mStep o i s) st' hr (by simp only [List.length_cons] at hn; omega) hwf' (step i o s st st' ho hs h)
theorem mGo_law {L : List IOp} (hwf : firstBad L < 0) (I : Nat → MS → List Bool → Prop)
    (step : ∀ i o s st st', L[i]? = some o → fbStep o st = some st' → I i s st → I (i + 1) (mStep o i s) st') (h0 : I 0 ms0 []) : I L.length (mGo L 0 ms0) [] :=
  mGo_inv I step L 0 ms0 [] rfl (by simp) (fbGo_neg L [] 0 hwf) h0

/-! ### sums -/
theorem sumN_le {c d : Nat → Nat} : ∀ K, (∀ m, m < K → c m ≤ d m) → sumN c K ≤ sumN d K
  | 0, _ => Nat.le_refl _
  | K + 1, h => by rw [sumN, sumN]; have := sumN_le K (fun m hm => h m (by omega)); have := h K (by omega); omega
theorem sumNadd (c d : Nat → Nat) : ∀ K, sumN (fun m => c m + d m) K = sumN c K + sumN d K
  | 0 => rfl
  | K + 1 => by rw [sumN, sumN, sumN, sumNadd c d K]; omega
theorem sumN_indic (v q : Nat) : ∀ K, sumN (fun m => if m = q then v else 0) K = if q < K then v else 0
  | 0 => by simp [sumN]
  | K + 1 => by
    rw [sumN, sumN_indic v q K]
    by_cases h : q < K
    · have : ¬ K = q := by omega
      have h2 : q < K + 1 := by omega
      simp [h, this, h2]
    · by_cases h2 : K = q
      · subst h2; simp
      · have : ¬ q < K + 1 := by omega
        simp [h, h2, this]
/-- the walks that go on and the walks that fail -/
theorem sumnxt (o : IOp) (c : Nat → Nat) : ∀ K, sumN (nxt o c K) 256 + flc o c K ≤ sumN c K
  | 0 => by
    have : sumN (nxt o c 0) 256 = 0 := by
      have e : nxt o c 0 = fun _ => 0 := rfl
      rw [e]
      exact Nat.le_zero.1 (Nat.le_trans (sumN_le (d := fun m => if m = 300 then 1 else 0) 256 (fun m _ => Nat.zero_le _)) (by rw [sumN_indic]; simp))
    rw [this]; simp [flc, sumN]
  | K + 1 => by
    have ih := sumnxt o c K
    have e : nxt o c (K + 1) = fun m => nxt o c K m + (if goes o K m = true then c K else 0) := by funext m; rw [nxt]
    rw [e, sumNadd, flc, show sumN c (K + 1) = sumN c K + c K from rfl]
    cases hs : stepM o K with
    | inl q =>
      have e2 : (fun m => if goes o K m = true then c K else 0) = fun m => if m = q then c K else 0 := by
        funext m
        by_cases h : m = q
        · subst h; simp [goes, hs]
        · have : ¬ q = m := fun x => h x.symm
          simp [goes, hs, h, this]
      rw [e2, sumN_indic]
      simp only
      split <;> omega
    | inr y =>
      have e2 : (fun m => if goes o K m = true then c K else 0) = fun m => if m = 300 then 0 else 0 := by
        funext m; simp [goes, hs]
      rw [e2, sumN_indic]
      simp only
      have : (if 300 < 256 then 0 else 0) = 0 := by simp
      simp only [ite_self]
      omega
theorem sumN_mem {c : Nat → Nat} {p : Nat} : ∀ K, p < K → c p ≤ sumN c K
  | 0, h => by omega
  | K + 1, h => by
    rw [sumN]
    by_cases hp : p = K
    · subst hp; omega
    · have := sumN_mem (c := c) (p := p) K (by omega); omega
theorem sumN_two {c : Nat → Nat} {p : Nat} : ∀ K, 0 < p → p < K → c 0 + c p ≤ sumN c K
  | 0, _, h => by omega
  | K + 1, h0, h => by
    rw [sumN]
    by_cases hp : p = K
    · subst hp
      have := sumN_mem (c := c) (p := 0) p h0
      omega
    · have := sumN_two (c := c) (p := p) K h0 (by omega); omega
theorem flc_pos {o : IOp} {c : Nat → Nat} {i : Nat} {f : Fl} : ∀ K, flt o c i f K ≠ none → f ≠ none ∨ 0 < flc o c K
  | 0, h => .inl h
  | K + 1, h => by
    rw [flt] at h
    by_cases hc : c K = 0
    · rw [if_pos hc] at h
      rcases flc_pos K h with h | h
      · exact .inl h
      · right; rw [flc]; omega
    · rw [if_neg hc] at h
      cases hs : stepM o K with
      | inl q =>
        rw [hs] at h
        rcases flc_pos K h with h | h
        · exact .inl h
        · right; rw [flc]; omega
      | inr y => right; rw [flc, hs]; simp only; omega
theorem lks_pos {c : Nat → Nat} {i : Nat} {f : Fl} : ∀ K, lks c i f K ≠ none → f ≠ none ∨ ∃ p, 0 < p ∧ p < K ∧ 0 < c p
  | 0, h => .inl h
  | K + 1, h => by
    rw [lks] at h
    by_cases hc : 0 < K ∧ 0 < c K
    · exact .inr ⟨K, hc.1, by omega, hc.2⟩
    · rw [if_neg hc] at h
      rcases lks_pos K h with h | ⟨p, h1, h2, h3⟩
      · exact .inl h
      · exact .inr ⟨p, h1, by omega, h3⟩

/-! ### the counts -/
def Cov (x : St) : Prop := sumN x.cnt 256 ≤ x.tot
def Gap (x : St) : Prop := sumN x.cnt 256 < x.tot
structure CI (s : MS) : Prop where
  one : 1 ≤ s.et + s.cur.tot
  oneF : ∀ fr ∈ s.stk, 1 ≤ s.et + fr.e.tot
  cov : Cov s.cur
  covF : ∀ fr ∈ s.stk, Cov fr.e ∧ Cov fr.t
  ended : s.ec ≤ s.et
  gap : s.f ≠ none → s.ec < s.et ∨ Gap s.cur ∨ ∃ fr ∈ s.stk, fr.inE = true ∧ Gap fr.t
theorem cov0 : Cov st0 := by
  unfold Cov st0
  simp only
  have := sumN_le (c := fun _ => 0) (d := fun m => if m = 300 then 1 else 0) 256 (fun m _ => Nat.zero_le _)
  rw [sumN_indic] at this
  simpa using this
theorem ci0 : CI ms0 := by
  have hs : sumN one0 256 = 1 := by
    have := sumN_indic 1 0 256
    simp only [show (0 < 256) = True by simp, if_true] at this
    exact this
  refine ⟨by simp [ms0], by simp [ms0], ?_, by simp [ms0], by simp [ms0], by simp [ms0]⟩
  show sumN one0 256 ≤ 1
  rw [hs]; exact Nat.le_refl _
theorem ci_step {o : IOp} {i : Nat} {s : MS} {st st' : List Bool} (hst : s.stk.map (·.inE) = st) (hs : fbStep o st = some st') (h : CI s) : CI (mStep o i s) ∧ (mStep o i s).stk.map (·.inE) = st' := by
  obtain ⟨cur, et, ec, f, stk⟩ := s
  obtain ⟨h1, h2, h3, h4, h5, h6⟩ := h
  simp only at h1 h2 h3 h4 h5 h6 hst
  have hc := fb_code hs
  rcases hc with hc | hc | hc | hc | hc | hc | hc
  iterate 3
    · have hss := (fb_handles hs (by simp [hc])).2
      have hm : mStep o i ⟨cur, et, ec, f, stk⟩ = ⟨⟨nxt o cur.cnt 256, cur.tot⟩, et, ec, flt o cur.cnt i f 256, stk⟩ := by simp [mStep, hc]
      rw [hm]
      have hsum := sumnxt o cur.cnt 256
      refine ⟨⟨h1, h2, ?_, h4, h5, ?_⟩, by rw [hss]; exact hst⟩
      · unfold Cov at h3 ⊢; simp only; omega
      · intro hf
        simp only at hf
        unfold Cov at h3
        rcases flc_pos 256 hf with hf | hf
        · rcases h6 hf with h | h | h
          · exact .inl h
          · right; left; unfold Gap at h ⊢; simp only; omega
          · exact .inr (.inr h)
        · right; left; unfold Gap; simp only; omega
  · have hss := fb_same (.inr (.inr (.inr hc))) hs
    have hm : mStep o i ⟨cur, et, ec, f, stk⟩ = ⟨st0, et + cur.tot, ec + cur.cnt 0, lks cur.cnt i f 256, stk⟩ := by simp [mStep, hc]
    rw [hm]
    have h0le : cur.cnt 0 ≤ sumN cur.cnt 256 := sumN_mem 256 (by omega)
    unfold Cov at h3
    refine ⟨⟨by simp [st0]; omega, fun fr hfr => by have := h2 fr hfr; simp only; omega, cov0, h4, by simp only; omega, ?_⟩, by rw [← hss]; exact hst⟩
    intro hf
    simp only at hf ⊢
    rcases lks_pos 256 hf with hf | ⟨p, hp0, hp, hcp⟩
    · rcases h6 hf with h | h | ⟨fr, hfr, hi, hg⟩
      · left; omega
      · left; unfold Gap at h; omega
      · exact .inr (.inr ⟨fr, hfr, hi, hg⟩)
    · left
      have := sumN_two (c := cur.cnt) (p := p) 256 hp0 hp
      omega
  · have hss : false :: st = st' := by
      simp only [fbStep, hc] at hs; simp at hs; exact hs.2
    have hm : mStep o i ⟨cur, et, ec, f, stk⟩ = ⟨cur, et, ec, f, ⟨cur, st0, false⟩ :: stk⟩ := by simp [mStep, hc]
    rw [hm]
    refine ⟨⟨h1, ?_, h3, ?_, h5, ?_⟩, by rw [← hss, ← hst]; rfl⟩
    · intro fr hfr
      simp only [List.mem_cons] at hfr
      rcases hfr with rfl | hfr
      · exact h1
      · exact h2 fr hfr
    · intro fr hfr
      simp only [List.mem_cons] at hfr
      rcases hfr with rfl | hfr
      · exact ⟨h3, cov0⟩
      · exact h4 fr hfr
    · intro hf
      rcases h6 hf with h | h | ⟨fr, hfr, hi, hg⟩
      · exact .inl h
      · exact .inr (.inl h)
      · exact .inr (.inr ⟨fr, by simp [hfr], hi, hg⟩)
  · cases stk with
    | nil => simp only [List.map_nil] at hst; subst hst; simp [fbStep, hc] at hs
    | cons fr r =>
      have hm : mStep o i ⟨cur, et, ec, f, fr :: r⟩ = ⟨fr.e, et, ec, f, ⟨fr.e, cur, true⟩ :: r⟩ := by simp [mStep, hc]
      rw [hm]
      have hfe : fr.inE = false ∧ st' = true :: r.map (·.inE) := by
        rw [← hst] at hs
        simp only [fbStep, hc, List.map_cons] at hs
        cases hi : fr.inE <;> rw [hi] at hs <;> simp at hs
        exact ⟨rfl, hs.symm⟩
      refine ⟨⟨h2 fr (by simp), ?_, (h4 fr (by simp)).1, ?_, h5, ?_⟩, by rw [hfe.2]; rfl⟩
      · intro x hx
        simp only [List.mem_cons] at hx
        rcases hx with rfl | hx
        · exact h2 fr (by simp)
        · exact h2 x (by simp [hx])
      · intro x hx
        simp only [List.mem_cons] at hx
        rcases hx with rfl | hx
        · exact ⟨(h4 fr (by simp)).1, h3⟩
        · exact h4 x (by simp [hx])
      · intro hf
        rcases h6 hf with h | h | ⟨x, hx, hi, hg⟩
        · exact .inl h
        · exact .inr (.inr ⟨⟨fr.e, cur, true⟩, by simp, rfl, h⟩)
        · simp only [List.mem_cons] at hx
          rcases hx with rfl | hx
          · rw [hfe.1] at hi; cases hi
          · exact .inr (.inr ⟨x, by simp [hx], hi, hg⟩)
  · cases stk with
    | nil => simp only [List.map_nil] at hst; subst hst; simp [fbStep, hc] at hs
    | cons fr r =>
      have hm : mStep o i ⟨cur, et, ec, f, fr :: r⟩ = ⟨⟨fun m => cur.cnt m + fr.t.cnt m, cur.tot + fr.t.tot⟩, et, ec, f, r⟩ := by simp [mStep, hc]
      rw [hm]
      have hfe : st' = r.map (·.inE) := by
        rw [← hst] at hs
        simp only [fbStep, hc, List.map_cons] at hs
        cases hi : fr.inE <;> rw [hi] at hs <;> simp at hs
        exact hs.symm
      have ht := (h4 fr (by simp)).2
      have hsum := sumNadd cur.cnt fr.t.cnt 256
      refine ⟨⟨by simp only; omega, fun x hx => h2 x (by simp [hx]), ?_, fun x hx => h4 x (by simp [hx]), h5, ?_⟩, hfe.symm⟩
      · unfold Cov at *; simp only; omega
      · intro hf
        unfold Cov at *
        rcases h6 hf with h | h | ⟨x, hx, hi, hg⟩
        · exact .inl h
        · right; left; unfold Gap at *; simp only; omega
        · simp only [List.mem_cons] at hx
          rcases hx with rfl | hx
          · right; left; unfold Gap at *; simp only; omega
          · exact .inr (.inr ⟨x, hx, hi, hg⟩)
theorem ci_end {L : List IOp} (hwf : firstBad L < 0) : CI (mGo L 0 ms0) :=
  (mGo_law hwf (fun _ s st => s.stk.map (·.inE) = st ∧ CI s) (fun i o s st st' _ hs h => ⟨(ci_step h.1 hs h.2).2, (ci_step h.1 hs h.2).1⟩) ⟨rfl, ci0⟩).2
theorem stk_end {L : List IOp} (hwf : firstBad L < 0) : (mGo L 0 ms0).stk = [] := by
  have := (mGo_law hwf (fun _ s st => s.stk.map (·.inE) = st ∧ CI s) (fun i o s st st' _ hs h => ⟨(ci_step h.1 hs h.2).2, (ci_step h.1 hs h.2).1⟩) ⟨rfl, ci0⟩).1
  simpa using this

/-! ### the first failure -/
def Good (L : List IOp) (x : Nat × Nat × Nat) : Prop := x.2.2 < 8 ∧ ((x.1 = L.length ∧ x.2.1 = 3) ∨ ∃ o, L[x.1]? = some o ∧
  ((x.2.1 = 1 ∧ (o.c = 2 ∨ o.c = 3) ∧ o.a = (x.2.2 : Int)) ∨ (x.2.1 = 2 ∧ ((o.c = 1 ∧ o.a = (x.2.2 : Int)) ∨ (o.c = 3 ∧ o.b = (x.2.2 : Int)))) ∨ (x.2.1 = 3 ∧ o.c = 4)))
def GoodF (L : List IOp) (f : Fl) : Prop := ∀ x, f = some x → Good L x
theorem good_note {L : List IOp} {f : Fl} {x : Nat × Nat × Nat} (hf : GoodF L f) (hx : Good L x) : GoodF L (noteF f x) := by
  intro y hy
  unfold noteF at hy
  cases f with
  | none => cases hy; exact hx
  | some z =>
    simp only at hy
    split at hy
    · cases hy; exact hx
    · cases hy; exact hf _ rfl
theorem lowB_lt (m : Nat) : lowB m < 8 := by
  unfold lowB
  cases h : (List.range 8).find? fun h => m.testBit h with
  | none => simp
  | some y =>
    have := List.mem_of_find?_eq_some h
    simpa using this
theorem good_flt {L : List IOp} {o : IOp} {i : Nat} {c : Nat → Nat} {f : Fl} (ho : L[i]? = some o) (hA : okH o.a = true) (hB : o.c = 3 → okH o.b = true) (hc : o.c = 1 ∨ o.c = 2 ∨ o.c = 3) (hf : GoodF L f) : ∀ K, GoodF L (flt o c i f K)
  | 0 => hf
  | K + 1 => by
    rw [flt]
    have ih := good_flt (c := c) ho hA hB hc hf K
    by_cases h : c K = 0
    · rw [if_pos h]; exact ih
    · rw [if_neg h]
      cases hs : stepM o K with
      | inl q => exact ih
      | inr y =>
        obtain ⟨kd, hd⟩ := y
        refine good_note ih ?_
        obtain ⟨a, ha, ha8⟩ := okH_nat hA
        have hta : o.a.toNat = a := by rw [ha]; simp
        unfold stepM at hs
        rcases hc with hc | hc | hc
        · rw [if_pos hc] at hs
          split at hs
          · cases hs; exact ⟨by simp only; omega, .inr ⟨o, ho, .inr (.inl ⟨rfl, .inl ⟨hc, by rw [hta]; exact ha⟩⟩)⟩⟩
          · cases hs
        · rw [if_neg (by omega), if_pos hc] at hs
          split at hs
          · cases hs
          · cases hs; exact ⟨by simp only; omega, .inr ⟨o, ho, .inl ⟨rfl, .inl hc, by rw [hta]; exact ha⟩⟩⟩
        · obtain ⟨b, hb, hb8⟩ := okH_nat (hB hc)
          have htb : o.b.toNat = b := by rw [hb]; simp
          rw [if_neg (by omega), if_neg (by omega)] at hs
          split at hs
          · split at hs
            · cases hs; exact ⟨by simp only; omega, .inr ⟨o, ho, .inr (.inl ⟨rfl, .inr ⟨hc, by rw [htb]; exact hb⟩⟩)⟩⟩
            · cases hs
          · cases hs; exact ⟨by simp only; omega, .inr ⟨o, ho, .inl ⟨rfl, .inr hc, by rw [hta]; exact ha⟩⟩⟩
theorem good_lks {L : List IOp} {i : Nat} {c : Nat → Nat} {f : Fl} (hi : i = L.length ∨ ∃ o, L[i]? = some o ∧ o.c = 4) (hf : GoodF L f) : ∀ K, GoodF L (lks c i f K)
  | 0 => hf
  | K + 1 => by
    rw [lks]
    have ih := good_lks (c := c) hi hf K
    by_cases h : 0 < K ∧ 0 < c K
    · rw [if_pos h]
      refine good_note ih ⟨lowB_lt _, ?_⟩
      rcases hi with hi | ⟨o, ho, hc⟩
      · exact .inl ⟨hi, rfl⟩
      · exact .inr ⟨o, ho, .inr (.inr ⟨rfl, hc⟩)⟩
    · rw [if_neg h]; exact ih
theorem fb_okH {o : IOp} {st st' : List Bool} (h : fbStep o st = some st') (hc : o.c = 1 ∨ o.c = 2 ∨ o.c = 3) : okH o.a = true ∧ (o.c = 3 → okH o.b = true) := by
  cases hA : okH o.a
  · rcases hc with hc | hc | hc <;> simp [fbStep, hc, hA] at h
  · refine ⟨rfl, fun h3 => ?_⟩
    cases hB : okH o.b
    · simp [fbStep, h3, hA, hB] at h
    · rfl
theorem good_end {L : List IOp} (hwf : firstBad L < 0) : GoodF L (lks (mGo L 0 ms0).cur.cnt L.length (mGo L 0 ms0).f 256) := by
  refine good_lks (.inl rfl) ?_ 256
  refine mGo_law hwf (fun _ s _ => GoodF L s.f) (fun i o s st st' ho hs h => ?_) (by intro x hx; cases hx)
  have hc := fb_code hs
  unfold mStep
  split
  · rename_i h123
    obtain ⟨hA, hB⟩ := fb_okH hs h123
    exact good_flt ho hA hB h123 h 256
  · split
    · rename_i h4
      exact good_lks (.inr ⟨o, ho, h4⟩) h 256
    · split
      · exact h
      · split
        · split <;> exact h
        · split <;> exact h
theorem firstBad_le (L : List IOp) : firstBad L ≤ L.length := by
  have : ∀ (l : List IOp) (st : List Bool) (i : Nat), fbGo l st i ≤ ((i + l.length : Nat) : Int) := by
    intro l
    induction l with
    | nil => intro st i; rw [fbGo]; split <;> simp <;> omega
    | cons o r ih =>
      intro st i
      rw [fbGo]
      cases fbStep o st with
      | none => simp only [List.length_cons]; omega
      | some st' => have := ih st' (i + 1); simp only [List.length_cons]; omega
  have := this L [] 0
  unfold firstBad
  simpa using this
theorem analyze_wf (L : List IOp) (hwf : firstBad L < 0) : ∃ P C : Nat, 1 ≤ P ∧ C ≤ P ∧
    ((analyzeR L = ⟨true, 0, -1, -1, sg P, sg P⟩) ∨ ∃ p k h : Nat, Good L (p, k, h) ∧ C < P ∧ analyzeR L = ⟨false, k, p, h, sg P, sg C⟩) := by
  have hci := ci_end hwf
  have hgood := good_end hwf
  have hsk := stk_end hwf
  unfold analyzeR
  rw [if_neg (by omega)]
  unfold mRep
  generalize hs : mGo L 0 ms0 = s at *
  have h0le : s.cur.cnt 0 ≤ sumN s.cur.cnt 256 := sumN_mem 256 (by omega)
  have hcov := hci.cov
  unfold Cov at hcov
  refine ⟨s.et + s.cur.tot, s.ec + s.cur.cnt 0, hci.one, by have := hci.ended; omega, ?_⟩
  cases hl : lks s.cur.cnt L.length s.f 256 with
  | none => left; rfl
  | some y =>
    obtain ⟨p, k, h⟩ := y
    right
    refine ⟨p, k, h, hgood _ hl, ?_, rfl⟩
    have hen := hci.ended
    rcases lks_pos 256 (by rw [hl]; simp : lks s.cur.cnt L.length s.f 256 ≠ none) with hf | ⟨q, hq0, hq, hcq⟩
    · rcases hci.gap hf with h | h | ⟨fr, hfr, _⟩
      · omega
      · unfold Gap at h; omega
      · rw [hsk] at hfr; cases hfr
    · have := sumN_two (c := s.cur.cnt) (p := q) 256 hq0 hq
      omega
theorem analyze_bad (L : List IOp) (hwf : ¬ firstBad L < 0) : analyzeR L = ⟨false, 4, firstBad L, -1, 0, 0⟩ := by
  unfold analyzeR
  rw [if_pos (by omega)]; rfl
theorem good_kind {L : List IOp} {p k h : Nat} (hg : Good L (p, k, h)) : 1 ≤ k ∧ k ≤ 3 := by
  obtain ⟨_, ⟨_, h3⟩ | ⟨o, _, ⟨h1, _⟩ | ⟨h1, _⟩ | ⟨h1, _⟩⟩⟩ := hg <;> simp only at * <;> omega
theorem strict_bad (L : List IOp) (hwf : ¬ firstBad L < 0) : strictM L = false := by
  rw [← analyze_ok, analyze_bad L hwf]
theorem sg_one {P : Nat} (h : 1 ≤ P) : 1 ≤ sg P := by unfold sg cap; omega
end Go.Proofs.Yahagw
