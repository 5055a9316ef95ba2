/-
  new h; use h in front: the machine comes back to its start; all behind is shifted by two.
-/
import Derived.Test.YahagwInv
set_option linter.unusedVariables false
set_option linter.unusedSimpArgs false
namespace Go.Proofs.Yahagw

def shF (d : Nat) (f : Fl) : Fl := match f with
  | none => none
  | some (p, k, h) => some (p + d, k, h)
def shS (d : Nat) (s : MS) : MS := { s with f := shF d s.f }
theorem lexB_sh (d p k h p' k' h' : Nat) : lexB (p + d, k, h) (p' + d, k', h') = lexB (p, k, h) (p', k', h') := by
  have h1 : (p + d < p' + d) ↔ p < p' := by omega
  have h2 : (p + d = p' + d) ↔ p = p' := by omega
  simp [lexB, h1, h2]
theorem noteF_sh (d : Nat) (f : Fl) (p k h : Nat) : noteF (shF d f) (p + d, k, h) = shF d (noteF f (p, k, h)) := by
  cases f with
  | none => rfl
  | some y =>
    obtain ⟨p', k', h'⟩ := y
    simp only [noteF, shF]
    rw [lexB_sh]
    cases lexB (p, k, h) (p', k', h') <;> simp
theorem flt_sh (d : Nat) (o : IOp) (c : Nat → Nat) (i : Nat) (f : Fl) : ∀ K, flt o c (i + d) (shF d f) K = shF d (flt o c i f K)
  | 0 => rfl
  | K + 1 => by
    rw [flt, flt, flt_sh d o c i f K]
    by_cases hc : c K = 0
    · rw [if_pos hc, if_pos hc]
    · rw [if_neg hc, if_neg hc]
      cases stepM o K with
      | inl q => rfl
      | inr y => obtain ⟨k, h⟩ := y; exact noteF_sh d _ i k h
theorem lks_sh (d : Nat) (c : Nat → Nat) (i : Nat) (f : Fl) : ∀ K, lks c (i + d) (shF d f) K = shF d (lks c i f K)
  | 0 => rfl
  | K + 1 => by
    rw [lks, lks, lks_sh d c i f K]
    by_cases hc : 0 < K ∧ 0 < c K
    · rw [if_pos hc, if_pos hc]; exact noteF_sh d _ i 3 (lowB K)
    · rw [if_neg hc, if_neg hc]
theorem mStep_sh (d : Nat) (o : IOp) (i : Nat) (s : MS) : mStep o (i + d) (shS d s) = shS d (mStep o i s) := by
  obtain ⟨cur, et, ec, f, stk⟩ := s
  unfold mStep
  simp only [shS]
  split
  · simp only [flt_sh]
  · split
    · simp only [lks_sh]
    · split
      · rfl
      · split
        · cases stk <;> rfl
        · cases stk <;> rfl
theorem mGo_sh (d : Nat) : ∀ (l : List IOp) (i : Nat) (s : MS), mGo l (i + d) (shS d s) = shS d (mGo l i s)
  | [], _, _ => rfl
  | o :: r, i, s => by
    rw [mGo, mGo, mStep_sh, show i + d + 1 = (i + 1) + d by omega, mGo_sh d r (i + 1)]
theorem fbGo_sh (d : Nat) : ∀ (l : List IOp) (st : List Bool) (i : Nat), (fbGo l st i < 0 → fbGo l st (i + d) = -1) ∧ (0 ≤ fbGo l st i → fbGo l st (i + d) = fbGo l st i + d)
  | [], st, i => by
    rw [fbGo, fbGo]
    by_cases h : 0 < st.length
    · rw [if_pos h, if_pos h]; constructor <;> intro h' <;> omega
    · rw [if_neg h, if_neg h]; exact ⟨fun _ => rfl, fun h' => absurd h' (by decide)⟩
  | o :: r, st, i => by
    rw [fbGo, fbGo]
    cases fbStep o st with
    | none => simp only; constructor <;> intro h' <;> omega
    | some st' =>
      simp only
      rw [show i + d + 1 = (i + 1) + d by omega]
      exact fbGo_sh d r st' (i + 1)

def padR (r : Rep) : Rep := if 0 ≤ r.pos then { r with pos := r.pos + 2 } else r
theorem okH_lt {h : Nat} (hh : h < 8) : okH (h : Int) = true := by
  unfold okH
  simp; omega
theorem pad_state (h : Nat) (hh : h < 8) (b1 b2 : Int) : mStep ⟨2, (h : Int), b2⟩ 1 (mStep ⟨1, (h : Int), b1⟩ 0 ms0) = ms0 := by
  have hp := pow_lt8 hh
  have s1 : stepM ⟨1, (h : Int), b1⟩ 0 = .inl (2 ^ h) := by simp [stepM]
  have n1 : nxt ⟨1, (h : Int), b1⟩ one0 256 = fun m => if m = 2 ^ h then 1 else 0 := by
    funext m
    by_cases hm : m = 2 ^ h
    · subst hm; rw [nxt_one s1 256 (by omega)]; simp [one0]
    · rw [nxt_zero 256 (fun p hp' hs => ?_), if_neg hm]
      by_cases hp0 : p = 0
      · subst hp0; rw [s1] at hs; cases hs; exact absurd rfl hm
      · simp [one0, hp0]
  have f1 : flt ⟨1, (h : Int), b1⟩ one0 0 none 256 = none := by
    rw [flt_none]
    refine ⟨rfl, fun p _ hc => ?_⟩
    by_cases hp0 : p = 0
    · subst hp0; exact ⟨_, s1⟩
    · simp [one0, hp0] at hc
  have s2 : stepM ⟨2, (h : Int), b2⟩ (2 ^ h) = .inl 0 := by simp [stepM]
  have n2 : nxt ⟨2, (h : Int), b2⟩ (fun m => if m = 2 ^ h then 1 else 0) 256 = one0 := by
    funext m
    by_cases hm : m = 0
    · subst hm; rw [nxt_one s2 256 hp]; simp [one0]
    · rw [nxt_zero 256 (fun p hp' hs => ?_)]
      · simp [one0, hm]
      · by_cases hp0 : p = 2 ^ h
        · subst hp0; rw [s2] at hs; cases hs; exact absurd rfl hm
        · simp [hp0]
  have f2 : flt ⟨2, (h : Int), b2⟩ (fun m => if m = 2 ^ h then 1 else 0) 1 none 256 = none := by
    rw [flt_none]
    refine ⟨rfl, fun p _ hc => ?_⟩
    by_cases hp0 : p = 2 ^ h
    · subst hp0; exact ⟨_, s2⟩
    · simp [hp0] at hc
  simp only [mStep, ms0, true_or, or_true, if_true, n1, f1, n2, f2]
theorem analyze_pad (L : List IOp) (h : Nat) (hh : h < 8) (b1 b2 : Int) : analyzeR (⟨1, (h : Int), b1⟩ :: ⟨2, (h : Int), b2⟩ :: L) = padR (analyzeR L) := by
  have hok := okH_lt hh
  have hfb : firstBad (⟨1, (h : Int), b1⟩ :: ⟨2, (h : Int), b2⟩ :: L) = fbGo L [] (0 + 2) := by
    have e1 : fbStep ⟨1, (h : Int), b1⟩ [] = some [] := by simp [fbStep, hok]
    have e2 : fbStep ⟨2, (h : Int), b2⟩ [] = some [] := by simp [fbStep, hok]
    unfold firstBad
    rw [fbGo, e1]
    simp only
    rw [fbGo, e2]
  obtain ⟨hs1, hs2⟩ := fbGo_sh 2 L [] 0
  by_cases hwf : firstBad L < 0
  · have h1 := hs1 hwf
    unfold analyzeR
    rw [hfb, h1, if_neg (by omega), if_neg (by omega)]
    rw [mGo, mGo, pad_state h hh b1 b2]
    have h2 := mGo_sh 2 L 0 ms0
    rw [show shS 2 ms0 = ms0 from rfl] at h2
    rw [h2]
    unfold mRep
    simp only [List.length_cons, shS]
    rw [show L.length + 1 + 1 = L.length + 2 from rfl, lks_sh]
    cases lks (mGo L 0 ms0).cur.cnt L.length (mGo L 0 ms0).f 256 with
    | none => rfl
    | some y =>
      obtain ⟨p, k, h'⟩ := y
      simp only [shF, repOf, padR]
      have hp0 : (0 : Int) ≤ (p : Int) := by omega
      simp only [hp0, if_true]
      rfl
  · have h1 := hs2 (by unfold firstBad at hwf; omega)
    have h2 : (0 : Int) ≤ fbGo L [] 0 := by unfold firstBad at hwf; omega
    unfold analyzeR
    rw [hfb, h1, if_pos (by omega), if_pos (by unfold firstBad; exact h2)]
    unfold badRep padR firstBad
    simp only
    rw [if_pos h2]
    simp
end Go.Proofs.Yahagw
