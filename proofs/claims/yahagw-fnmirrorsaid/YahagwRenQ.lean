/-
  The machine over renamed handles.
-/
import Derived.Test.YahagwRenP
set_option linter.unusedVariables false
set_option linter.unusedSimpArgs false
namespace Go.Proofs.Yahagw

theorem rop_a {pm : Nat → Nat} {o : IOp} (hc : o.c = 1 ∨ o.c = 2 ∨ o.c = 3) {a : Nat} (ha : o.a = (a : Int)) (ha8 : a < 8) : (rop pm o).a.toNat = pm a := by
  unfold rop; rw [if_pos hc]
  simp only [ren, ha]
  rw [if_pos (by omega)]
  simp
theorem rop_b {pm : Nat → Nat} {o : IOp} (hc : o.c = 3) {b : Nat} (hb : o.b = (b : Int)) (hb8 : b < 8) : (rop pm o).b.toNat = pm b := by
  unfold rop; rw [if_pos (by simp [hc])]
  simp only [ren, hb, hc]
  rw [if_pos trivial, if_pos (by omega)]
  simp
/-- one operation on a renamed set -/
theorem step_ren {pm : Nat → Nat} (hp : Pm pm) {o : IOp} (hA : okH o.a = true) (hB : o.c = 3 → okH o.b = true) (hc : o.c = 1 ∨ o.c = 2 ∨ o.c = 3) (m : Nat) :
    stepM (rop pm o) (rm pm m) = match stepM o m with
      | .inl q => .inl (rm pm q)
      | .inr (k, h) => .inr (k, pm h) := by
  obtain ⟨a, ha, ha8⟩ := okH_nat hA
  have ha' : o.a.toNat = a := by rw [ha]; simp
  have hra := rop_a (pm := pm) hc ha ha8
  unfold stepM
  rw [rop_c]
  rcases hc with hc | hc | hc
  · simp only [hc, if_true, hra, ha', rm_bit hp m a ha8]
    cases m.testBit a with
    | true => rfl
    | false => simp only [Bool.false_eq_true, if_false]; rw [rm_or hp m a ha8]
  · have h1 : ¬ ((2 : Int) = 1) := by decide
    simp only [hc, h1, if_true, if_false, hra, ha', rm_bit hp m a ha8]
    cases m.testBit a with
    | true => simp only [if_true]; rw [rm_xor hp m a ha8]
    | false => rfl
  · obtain ⟨b, hb, hb8⟩ := okH_nat (hB hc)
    have hb' : o.b.toNat = b := by rw [hb]; simp
    have hrb := rop_b (pm := pm) hc hb hb8
    have h1 : ¬ ((3 : Int) = 1) := by decide
    have h2 : ¬ ((3 : Int) = 2) := by decide
    simp only [hc, h1, h2, if_false, hra, ha', hrb, hb', rm_bit hp m a ha8]
    cases m.testBit a with
    | false => rfl
    | true =>
      simp only [if_true]
      rw [← rm_xor hp m a ha8, rm_bit hp _ b hb8]
      cases (m ^^^ 2 ^ a).testBit b with
      | true => rfl
      | false => simp only [Bool.false_eq_true, if_false]; rw [rm_or hp _ b hb8]

def CR (pm : Nat → Nat) (c c' : Nat → Nat) : Prop := ∀ m, m < 256 → c' (rm pm m) = c m
theorem step_lt {o : IOp} (hA : okH o.a = true) (hB : o.c = 3 → okH o.b = true) (hc : o.c = 1 ∨ o.c = 2 ∨ o.c = 3) {m q : Nat} (hm : m < 256) (h : stepM o m = .inl q) : q < 256 :=
  stepM_lt (by obtain ⟨h, e, hh⟩ := okH_nat hA; rw [e]; simpa using hh) (by
    rcases hc with h | h | h
    · exact .inr (.inl h)
    · exact .inr (.inr h)
    · obtain ⟨h', e, hh⟩ := okH_nat (hB h); left; rw [e]; simpa using hh) hm h
theorem nxt_ren {pm : Nat → Nat} (hp : Pm pm) {o : IOp} (hA : okH o.a = true) (hB : o.c = 3 → okH o.b = true) (hc : o.c = 1 ∨ o.c = 2 ∨ o.c = 3) {c c' : Nat → Nat} (h : CR pm c c') :
    CR pm (nxt o c 256) (nxt (rop pm o) c' 256) := by
  intro q hq
  by_cases hex : ∃ p, p < 256 ∧ stepM o p = .inl q
  · obtain ⟨p, hp256, hs⟩ := hex
    have hs' := step_ren hp hA hB hc p
    rw [hs] at hs'
    rw [nxt_one hs 256 hp256, nxt_one hs' 256 (rm_lt hp p), h p hp256]
  · rw [nxt_zero (o := o) 256 (fun p hp256 hs => absurd ⟨p, hp256, hs⟩ hex)]
    refine nxt_zero 256 fun p' hp' hs => ?_
    obtain ⟨p, hp256, rfl⟩ := rm_surj hp p' hp'
    exfalso
    have hs' := step_ren hp hA hB hc p
    rw [hs] at hs'
    cases hsp : stepM o p with
    | inr y => obtain ⟨k, hh⟩ := y; rw [hsp] at hs'; cases hs'
    | inl q2 =>
      rw [hsp] at hs'
      simp only [Sum.inl.injEq] at hs'
      have := rm_inj hp hq (step_lt hA hB hc hp256 hsp) hs'
      subst this
      exact hex ⟨p, hp256, hsp⟩

/-! ### the least failure of a set of failures -/
def Least (S : Nat × Nat × Nat → Prop) (f : Fl) : Prop := (f = none ∧ ∀ x, ¬ S x) ∨ ∃ x, f = some x ∧ S x ∧ ∀ y, S y → ¬ lexLt y x
theorem lex_tot {x y : Nat × Nat × Nat} (h1 : ¬ lexLt x y) (h2 : ¬ lexLt y x) : x = y := by
  obtain ⟨a, b, c⟩ := x
  obtain ⟨d, e, f⟩ := y
  simp only [lexLt] at h1 h2
  have h3 : a = d := by omega
  subst h3
  have h4 : b = e := by omega
  subst h4
  have h5 : c = f := by omega
  subst h5
  rfl
theorem least_note {S : Nat × Nat × Nat → Prop} {f : Fl} (h : Least S f) (x : Nat × Nat × Nat) : Least (fun y => S y ∨ y = x) (noteF f x) := by
  rcases h with ⟨rfl, hno⟩ | ⟨z, rfl, hz, hmin⟩
  · right
    refine ⟨x, rfl, .inr rfl, ?_⟩
    rintro y (hy | rfl)
    · exact absurd hy (hno y)
    · simp only [lexLt]; omega
  · right
    unfold noteF
    simp only
    by_cases hl : lexB x z = true
    · rw [if_pos hl]
      have hlx := (lexB_iff x z).1 hl
      refine ⟨x, rfl, .inr rfl, ?_⟩
      rintro y (hy | rfl) hlt
      · refine hmin y hy ?_
        simp only [lexLt] at hlx hlt ⊢
        omega
      · simp only [lexLt] at hlt; omega
    · rw [if_neg hl]
      have hlx : ¬ lexLt x z := fun h => hl ((lexB_iff x z).2 h)
      refine ⟨z, rfl, .inl hz, ?_⟩
      rintro y (hy | rfl)
      · exact hmin y hy
      · exact hlx
theorem least_congr {S T : Nat × Nat × Nat → Prop} {f : Fl} (h : Least S f) (he : ∀ x, S x ↔ T x) : Least T f := by
  rcases h with ⟨rfl, hno⟩ | ⟨z, rfl, hz, hmin⟩
  · exact .inl ⟨rfl, fun x hx => hno x ((he x).2 hx)⟩
  · exact .inr ⟨z, rfl, (he z).1 hz, fun y hy => hmin y ((he y).2 hy)⟩
theorem least_self (f : Fl) : Least (fun x => f = some x) f := by
  cases f with
  | none => exact .inl ⟨rfl, by simp⟩
  | some z => exact .inr ⟨z, rfl, rfl, fun y hy => by cases hy; simp only [lexLt]; omega⟩
def SF (o : IOp) (c : Nat → Nat) (i : Nat) (f : Fl) (K : Nat) (x : Nat × Nat × Nat) : Prop := f = some x ∨ ∃ p k h, p < K ∧ c p ≠ 0 ∧ stepM o p = .inr (k, h) ∧ x = (i, k, h)
theorem flt_least (o : IOp) (c : Nat → Nat) (i : Nat) (f : Fl) : ∀ K, Least (SF o c i f K) (flt o c i f K)
  | 0 => least_congr (least_self f) fun x => ⟨fun h => .inl h, fun h => by
      rcases h with h | ⟨p, _, _, hp, _⟩
      · exact h
      · omega⟩
  | K + 1 => by
    have ih := flt_least o c i f K
    rw [flt]
    have grow : ∀ x, SF o c i f K x → SF o c i f (K + 1) x := fun x hx => hx.imp id fun ⟨p, k, h, h1, h2⟩ => ⟨p, k, h, by omega, h2⟩
    by_cases hc : c K = 0
    · rw [if_pos hc]
      refine least_congr ih fun x => ⟨grow x, ?_⟩
      rintro (h | ⟨p, k, h, h1, h2, h3, h4⟩)
      · exact .inl h
      · by_cases hpK : p = K
        · subst hpK; exact absurd hc h2
        · exact .inr ⟨p, k, h, by omega, h2, h3, h4⟩
    · rw [if_neg hc]
      cases hs : stepM o K with
      | inl q =>
        refine least_congr ih fun x => ⟨grow x, ?_⟩
        rintro (h | ⟨p, k, h, h1, h2, h3, h4⟩)
        · exact .inl h
        · by_cases hpK : p = K
          · subst hpK; rw [hs] at h3; cases h3
          · exact .inr ⟨p, k, h, by omega, h2, h3, h4⟩
      | inr y =>
        obtain ⟨kd, hd⟩ := y
        refine least_congr (least_note ih (i, kd, hd)) fun x => ⟨?_, ?_⟩
        · rintro (h | rfl)
          · exact grow x h
          · exact .inr ⟨K, kd, hd, by omega, hc, hs, rfl⟩
        · rintro (h | ⟨p, k, h, h1, h2, h3, h4⟩)
          · exact .inl (.inl h)
          · by_cases hpK : p = K
            · subst hpK; rw [hs] at h3; cases h3; exact .inr h4
            · exact .inl (.inr ⟨p, k, h, by omega, h2, h3, h4⟩)
def SL (c : Nat → Nat) (i : Nat) (f : Fl) (K : Nat) (x : Nat × Nat × Nat) : Prop := f = some x ∨ ∃ p, 0 < p ∧ p < K ∧ 0 < c p ∧ x = (i, 3, lowB p)
theorem lks_least (c : Nat → Nat) (i : Nat) (f : Fl) : ∀ K, Least (SL c i f K) (lks c i f K)
  | 0 => least_congr (least_self f) fun x => ⟨fun h => .inl h, fun h => by
      rcases h with h | ⟨p, _, hp, _⟩
      · exact h
      · omega⟩
  | K + 1 => by
    have ih := lks_least c i f K
    rw [lks]
    have grow : ∀ x, SL c i f K x → SL c i f (K + 1) x := fun x hx => hx.imp id fun ⟨p, h1, h2, h3⟩ => ⟨p, h1, by omega, h3⟩
    by_cases hc : 0 < K ∧ 0 < c K
    · rw [if_pos hc]
      refine least_congr (least_note ih (i, 3, lowB K)) fun x => ⟨?_, ?_⟩
      · rintro (h | rfl)
        · exact grow x h
        · exact .inr ⟨K, hc.1, by omega, hc.2, rfl⟩
      · rintro (h | ⟨p, h1, h2, h3, h4⟩)
        · exact .inl (.inl h)
        · by_cases hpK : p = K
          · subst hpK; exact .inr h4
          · exact .inl (.inr ⟨p, h1, by omega, h3, h4⟩)
    · rw [if_neg hc]
      refine least_congr ih fun x => ⟨grow x, ?_⟩
      rintro (h | ⟨p, h1, h2, h3, h4⟩)
      · exact .inl h
      · by_cases hpK : p = K
        · subst hpK; exact absurd ⟨h1, h3⟩ hc
        · exact .inr ⟨p, h1, by omega, h3, h4⟩

/-- the same place and kind; the handle renamed where the kind is dead or overwrite -/
def XR (pm : Nat → Nat) (x x' : Nat × Nat × Nat) : Prop := x'.1 = x.1 ∧ x'.2.1 = x.2.1 ∧ (x.2.1 = 1 ∨ x.2.1 = 2 → x'.2.2 = pm x.2.2)
def FR (pm : Nat → Nat) (f f' : Fl) : Prop := (f = none ∧ f' = none) ∨ ∃ x x', f = some x ∧ f' = some x' ∧ XR pm x x'
theorem good_uniq {L : List IOp} {p k h h' : Nat} (hk : k = 1 ∨ k = 2) (h1 : Good L (p, k, h)) (h2 : Good L (p, k, h')) : h = h' := by
  obtain ⟨_, ⟨_, h3⟩ | ⟨o, ho, hx⟩⟩ := h1
  · simp only at h3; omega
  obtain ⟨_, ⟨_, h4⟩ | ⟨o', ho', hx'⟩⟩ := h2
  · simp only at h4; omega
  simp only at ho ho' hx hx'
  rw [ho] at ho'
  cases ho'
  rcases hx with ⟨e1, _, e2⟩ | ⟨e1, e2⟩ | ⟨e1, _⟩ <;> rcases hx' with ⟨e3, _, e4⟩ | ⟨e3, e4⟩ | ⟨e3, _⟩ <;> omega
theorem least_ren {pm : Nat → Nat} {L : List IOp} {S S' : Nat × Nat × Nat → Prop} {f f' : Fl} (h : Least S f) (h' : Least S' f') (hg : ∀ x, S x → Good L x)
    (hto : ∀ x, S x → ∃ x', S' x' ∧ x'.1 = x.1 ∧ x'.2.1 = x.2.1) (hfrom : ∀ x', S' x' → ∃ x, S x ∧ XR pm x x') : FR pm f f' := by
  rcases h with ⟨rfl, hno⟩ | ⟨x, rfl, hx, hmin⟩
  · rcases h' with ⟨rfl, _⟩ | ⟨x', rfl, hx', _⟩
    · exact .inl ⟨rfl, rfl⟩
    · obtain ⟨x, hx, _⟩ := hfrom x' hx'
      exact absurd hx (hno x)
  · rcases h' with ⟨rfl, hno'⟩ | ⟨x', rfl, hx', hmin'⟩
    · obtain ⟨x', hx', _⟩ := hto x hx
      exact absurd hx' (hno' x')
    · refine .inr ⟨x, x', rfl, rfl, ?_⟩
      obtain ⟨y', hy', hy1, hy2⟩ := hto x hx
      obtain ⟨z, hz, hz1, hz2, hz3⟩ := hfrom x' hx'
      have m1 := hmin' y' hy'
      have m2 := hmin z hz
      obtain ⟨p, k, hh⟩ := x
      obtain ⟨p', k', hh'⟩ := x'
      obtain ⟨yp, yk, yh⟩ := y'
      obtain ⟨zp, zk, zh⟩ := z
      simp only at *
      subst hy1 hy2 hz1 hz2
      simp only [lexLt] at m1 m2
      have e1 : p' = yp := by omega
      subst e1
      have e2 : k' = yk := by omega
      subst e2
      refine ⟨rfl, rfl, fun hk => ?_⟩
      simp only at hk ⊢
      have := good_uniq hk (hg _ hx) (hg _ hz)
      subst this
      exact hz3 hk
end Go.Proofs.Yahagw
