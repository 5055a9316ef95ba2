/-
  Handles renamed by a permutation: the machine goes along.
-/
import Derived.Test.YahagwInv
set_option linter.unusedVariables false
set_option linter.unusedSimpArgs false
namespace Go.Proofs.Yahagw

def ofBp (f : Nat → Bool) : Nat → Nat
  | 0 => 0
  | k + 1 => if f k = true then ofBp f k ||| 2 ^ k else ofBp f k
theorem ofBp_bit (f : Nat → Bool) : ∀ k q, (ofBp f k).testBit q = (decide (q < k) && f q)
  | 0, q => by simp [ofBp]
  | k + 1, q => by
    rw [ofBp]
    by_cases hf : f k = true
    · rw [if_pos hf, Nat.testBit_or, ofBp_bit f k q, Nat.testBit_two_pow]
      by_cases hq : k = q
      · subst hq; simp [hf]
      · have : (q < k + 1) ↔ q < k := by omega
        simp [hq, this]
    · rw [if_neg hf, ofBp_bit f k q]
      by_cases hq : k = q
      · subst hq; simp [hf]
      · have : (q < k + 1) ↔ q < k := by omega
        simp [this]
theorem ofBp_lt (f : Nat → Bool) (k : Nat) (hk : k ≤ 8) : ofBp f k < 256 := by
  have : ofBp f k < 2 ^ 8 := Nat.lt_pow_two_of_testBit _ fun i hi => by
    rw [ofBp_bit]; simp; omega
  exact this
structure Pm (pm : Nat → Nat) : Prop where
  lt : ∀ h, h < 8 → pm h < 8
  inj : ∀ a b, a < 8 → b < 8 → pm a = pm b → a = b
def rmK (pm : Nat → Nat) (m : Nat) : Nat → Nat
  | 0 => 0
  | k + 1 => if m.testBit k = true then rmK pm m k ||| 2 ^ (pm k) else rmK pm m k
def rm (pm : Nat → Nat) (m : Nat) : Nat := rmK pm m 8
theorem rmK_bit (pm : Nat → Nat) (m : Nat) : ∀ k q, (rmK pm m k).testBit q = true ↔ ∃ h, h < k ∧ m.testBit h = true ∧ pm h = q
  | 0, q => by simp [rmK]
  | k + 1, q => by
    rw [rmK]
    by_cases hk : m.testBit k = true
    · rw [if_pos hk, Nat.testBit_or, Bool.or_eq_true, rmK_bit pm m k q, Nat.testBit_two_pow]
      constructor
      · rintro (⟨h, h1, h2, h3⟩ | h)
        · exact ⟨h, by omega, h2, h3⟩
        · exact ⟨k, by omega, hk, by simpa using h⟩
      · rintro ⟨h, h1, h2, h3⟩
        by_cases hhk : h = k
        · subst hhk; right; simpa using h3
        · left; exact ⟨h, by omega, h2, h3⟩
    · rw [if_neg hk, rmK_bit pm m k q]
      constructor
      · rintro ⟨h, h1, h2, h3⟩; exact ⟨h, by omega, h2, h3⟩
      · rintro ⟨h, h1, h2, h3⟩
        by_cases hhk : h = k
        · subst hhk; exact absurd h2 hk
        · exact ⟨h, by omega, h2, h3⟩
theorem rm_lt {pm : Nat → Nat} (hp : Pm pm) (m : Nat) : rm pm m < 256 := by
  have : rm pm m < 2 ^ 8 := Nat.lt_pow_two_of_testBit _ fun i hi => by
    cases hb : (rm pm m).testBit i with
    | false => rfl
    | true =>
      obtain ⟨h, h1, _, h3⟩ := (rmK_bit pm m 8 i).1 hb
      have := hp.lt h h1
      omega
  exact this
theorem rm_bit {pm : Nat → Nat} (hp : Pm pm) (m h : Nat) (hh : h < 8) : (rm pm m).testBit (pm h) = m.testBit h := by
  cases hb : m.testBit h with
  | true => exact (rmK_bit pm m 8 (pm h)).2 ⟨h, hh, hb, rfl⟩
  | false =>
    cases hr : (rm pm m).testBit (pm h) with
    | false => rfl
    | true =>
      obtain ⟨h', h1, h2, h3⟩ := (rmK_bit pm m 8 (pm h)).1 hr
      have := hp.inj h' h h1 hh h3
      subst this
      rw [hb] at h2; cases h2
/-- every handle is some handle's name -/
theorem Pm.surj {pm : Nat → Nat} (hp : Pm pm) (q : Nat) (hq : q < 8) : ∃ h, h < 8 ∧ pm h = q := by
  apply Classical.byContradiction
  intro hno
  have hn : ∀ h, h < 8 → pm h ≠ q := fun h hh e => hno ⟨h, hh, e⟩
  have hnd : ((List.range 8).map pm).Nodup := by
    unfold List.Nodup
    rw [List.pairwise_map]
    exact List.Pairwise.imp_of_mem (fun {a b} ha hb hne e => hne (hp.inj a b (List.mem_range.1 ha) (List.mem_range.1 hb) e)) List.nodup_range
  have hsub : ((List.range 8).map pm) ⊆ (List.range 8).erase q := by
    intro x hx
    obtain ⟨h, hh, rfl⟩ := List.mem_map.1 hx
    have hh8 := List.mem_range.1 hh
    exact (List.mem_erase_of_ne (hn h hh8)).2 (List.mem_range.2 (hp.lt h hh8))
  have hlen := List.Nodup.length_le_of_subset hnd hsub
  rw [List.length_map, List.length_range, List.length_erase_of_mem (List.mem_range.2 hq), List.length_range] at hlen
  omega

theorem rm_ext {pm : Nat → Nat} (hp : Pm pm) {x y : Nat} (hx : x < 256) (hy : y < 256) (h : ∀ h, h < 8 → x.testBit (pm h) = y.testBit (pm h)) : x = y := by
  apply Nat.eq_of_testBit_eq
  intro q
  rcases Nat.lt_or_ge q 8 with hq | hq
  · obtain ⟨k, hk, rfl⟩ := hp.surj q hq
    exact h k hk
  · rw [Nat.testBit_lt_two_pow (Nat.lt_of_lt_of_le hx (Nat.pow_le_pow_right (n := 2) (by omega) hq)), Nat.testBit_lt_two_pow (Nat.lt_of_lt_of_le hy (Nat.pow_le_pow_right (n := 2) (by omega) hq))]
theorem rm_or {pm : Nat → Nat} (hp : Pm pm) (m h : Nat) (hh : h < 8) : rm pm (m ||| 2 ^ h) = rm pm m ||| 2 ^ pm h := by
  refine rm_ext hp (rm_lt hp _) (or_lt8 (rm_lt hp _) (hp.lt h hh)) fun k hk => ?_
  rw [rm_bit hp _ k hk, Nat.testBit_or, Nat.testBit_or, rm_bit hp _ k hk, Nat.testBit_two_pow, Nat.testBit_two_pow]
  by_cases e : h = k
  · subst e; simp
  · have : ¬ pm h = pm k := fun e' => e (hp.inj h k hh hk e')
    simp [e, this]
theorem rm_xor {pm : Nat → Nat} (hp : Pm pm) (m h : Nat) (hh : h < 8) : rm pm (m ^^^ 2 ^ h) = rm pm m ^^^ 2 ^ pm h := by
  refine rm_ext hp (rm_lt hp _) (xor_lt8 (rm_lt hp _) (hp.lt h hh)) fun k hk => ?_
  rw [rm_bit hp _ k hk, Nat.testBit_xor, Nat.testBit_xor, rm_bit hp _ k hk, Nat.testBit_two_pow, Nat.testBit_two_pow]
  by_cases e : h = k
  · subst e; simp
  · have : ¬ pm h = pm k := fun e' => e (hp.inj h k hh hk e')
    simp [e, this]
theorem rm_zero {pm : Nat → Nat} (hp : Pm pm) : rm pm 0 = 0 := by
  refine rm_ext hp (rm_lt hp _) (by omega) fun k hk => ?_
  rw [rm_bit hp _ k hk]; simp
theorem rm_inj {pm : Nat → Nat} (hp : Pm pm) {x y : Nat} (hx : x < 256) (hy : y < 256) (h : rm pm x = rm pm y) : x = y := by
  apply Nat.eq_of_testBit_eq
  intro q
  rcases Nat.lt_or_ge q 8 with hq | hq
  · rw [← rm_bit hp x q hq, ← rm_bit hp y q hq, h]
  · rw [Nat.testBit_lt_two_pow (Nat.lt_of_lt_of_le hx (Nat.pow_le_pow_right (n := 2) (by omega) hq)), Nat.testBit_lt_two_pow (Nat.lt_of_lt_of_le hy (Nat.pow_le_pow_right (n := 2) (by omega) hq))]
/-- every set is some set's name -/
theorem rm_surj {pm : Nat → Nat} (hp : Pm pm) (y : Nat) (hy : y < 256) : ∃ x, x < 256 ∧ rm pm x = y := by
  refine ⟨ofBp (fun h => y.testBit (pm h)) 8, ofBp_lt _ 8 (by omega), ?_⟩
  refine rm_ext hp (rm_lt hp _) hy fun k hk => ?_
  rw [rm_bit hp _ k hk, ofBp_bit]
  simp [hk]

def ren (pm : Nat → Nat) (x : Int) : Int := if 0 ≤ x ∧ x < 8 then (pm x.toNat : Int) else x
def rop (pm : Nat → Nat) (o : IOp) : IOp := if o.c = 1 ∨ o.c = 2 ∨ o.c = 3 then ⟨o.c, ren pm o.a, if o.c = 3 then ren pm o.b else o.b⟩ else o
theorem okH_ren {pm : Nat → Nat} (hp : Pm pm) (x : Int) : okH (ren pm x) = okH x := by
  unfold ren okH
  by_cases h : 0 ≤ x ∧ x < 8
  · rw [if_pos h]
    have := hp.lt x.toNat (by omega)
    have h1 : (0 : Int) ≤ (pm x.toNat : Int) := by omega
    have h2 : (pm x.toNat : Int) < 8 := by omega
    simp [h1, h2, h.1, h.2]
  · rw [if_neg h]
theorem rop_c (pm : Nat → Nat) (o : IOp) : (rop pm o).c = o.c := by unfold rop; split <;> rfl
theorem fb_rop {pm : Nat → Nat} (hp : Pm pm) (o : IOp) (st : List Bool) : fbStep (rop pm o) st = fbStep o st := by
  unfold rop
  by_cases hc : o.c = 1 ∨ o.c = 2 ∨ o.c = 3
  · rw [if_pos hc]
    rcases hc with h | h | h
    · simp [fbStep, h, okH_ren hp]
    · simp [fbStep, h, okH_ren hp]
    · simp [fbStep, h, okH_ren hp]
  · rw [if_neg hc]
theorem fbGo_ren {pm : Nat → Nat} (hp : Pm pm) : ∀ (l : List IOp) (st : List Bool) (i : Nat), fbGo (l.map (rop pm)) st i = fbGo l st i
  | [], _, _ => rfl
  | o :: r, st, i => by
    rw [List.map_cons, fbGo, fbGo, fb_rop hp]
    cases fbStep o st with
    | none => rfl
    | some st' => exact fbGo_ren hp r st' (i + 1)
end Go.Proofs.Yahagw
