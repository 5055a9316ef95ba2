/-
  if p else p end: where it is malformed, and its report.
-/
import Derived.Test.YahagwPadP
import Derived.Test.YahagwCountP
import Derived.Test.YahagwRenQ
set_option linter.unusedVariables false
set_option linter.unusedSimpArgs false
namespace Go.Proofs.Yahagw

def mirL (p : List IOp) : List IOp := ⟨5, 0, 0⟩ :: (p ++ ⟨6, 0, 0⟩ :: (p ++ [⟨7, 0, 0⟩]))
theorem mirL_len (p : List IOp) : (mirL p).length = 2 * p.length + 3 := by
  simp [mirL]; omega

/-! ### the first place with a thousand open ifs -/
def ffull : List IOp → Int → Nat → Int
  | [], _, _ => -1
  | o :: r, d, i => if o.c = 5 then (if 1000 ≤ d + 1 then (i : Int) else ffull r (d + 1) (i + 1)) else if o.c = 7 then ffull r (d - 1) (i + 1) else ffull r d (i + 1)
theorem fbRun_wf : ∀ (l : List IOp) (st : List Bool) (i : Nat), fbGo l st i = -1 → fbRun l st = some []
  | [], st, i, h => by
    rw [fbGo] at h
    cases st with
    | nil => rfl
    | cons b r => simp at h
  | o :: r, st, i, h => by
    rw [fbGo] at h
    rw [fbRun]
    cases hs : fbStep o st with
    | none => rw [hs] at h; simp only at h; omega
    | some st' => rw [hs] at h; exact fbRun_wf r st' (i + 1) h
theorem fb_ext {o : IOp} {st st' : List Bool} (h : fbStep o st = some st') (b : Bool) (hd : o.c = 5 → ¬ 1000 ≤ st.length + 1) : fbStep o (st ++ [b]) = some (st' ++ [b]) := by
  rcases fb_code h with c | c | c | c | c | c | c
  iterate 3
    · obtain ⟨hA, hB⟩ := fb_okH h (by simp [c])
      have hs := (fb_handles h (by simp [c])).2
      subst hs
      simp [fbStep, c, hA] 
      try simp [c] at hB
      try exact hB
  · have := fb_same (.inr (.inr (.inr c))) h
    subst this
    simp [fbStep, c]
  · have hs : false :: st = st' := by simp [fbStep, c] at h; exact h.2
    subst hs
    have := hd c
    simp [fbStep, c]
    omega
  · cases st with
    | nil => simp [fbStep, c] at h
    | cons x s =>
      cases x with
      | true => simp [fbStep, c] at h
      | false =>
        have hs : true :: s = st' := by simpa [fbStep, c] using h
        subst hs
        simp [fbStep, c]
  · cases st with
    | nil => simp [fbStep, c] at h
    | cons x s =>
      cases x with
      | false => simp [fbStep, c] at h
      | true =>
        have hs : s = st' := by simpa [fbStep, c] using h
        subst hs
        simp [fbStep, c]
theorem fb_len {o : IOp} {st st' : List Bool} (h : fbStep o st = some st') : (st'.length : Int) = if o.c = 5 then (st.length : Int) + 1 else if o.c = 7 then (st.length : Int) - 1 else (st.length : Int) := by
  rcases fb_code h with c | c | c | c | c | c | c
  iterate 3
    · have hs := (fb_handles h (by simp [c])).2
      subst hs
      simp [c]
  · have := fb_same (.inr (.inr (.inr c))) h
    subst this
    simp [c]
  · have hs : false :: st = st' := by simp [fbStep, c] at h; exact h.2
    subst hs
    simp [c]
  · cases st with
    | nil => simp [fbStep, c] at h
    | cons x s =>
      cases x with
      | true => simp [fbStep, c] at h
      | false =>
        have hs : true :: s = st' := by simpa [fbStep, c] using h
        subst hs
        simp [c]
  · cases st with
    | nil => simp [fbStep, c] at h
    | cons x s =>
      cases x with
      | false => simp [fbStep, c] at h
      | true =>
        have hs : s = st' := by simpa [fbStep, c] using h
        subst hs
        simp [c]
theorem full_ext (b : Bool) : ∀ (l : List IOp) (st st' : List Bool) (i : Nat), fbRun l st = some st' →
    (ffull l st.length i = -1 ∧ fbRun l (st ++ [b]) = some (st' ++ [b])) ∨ (0 ≤ ffull l st.length i ∧ ∀ (l' : List IOp) (d : Nat), fbGo (l ++ l') (st ++ [b]) (i + d) = ffull l st.length i + d)
  | [], st, st', i, h => by cases h; exact .inl ⟨rfl, rfl⟩
  | o :: r, st, st', i, h => by
    rw [fbRun] at h
    cases hs : fbStep o st with
    | none => rw [hs] at h; cases h
    | some st1 =>
      rw [hs] at h
      simp only at h
      have hlen := fb_len hs
      by_cases hfull : o.c = 5 ∧ 1000 ≤ st.length + 1
      · right
        rw [ffull, if_pos hfull.1, if_pos (by omega)]
        refine ⟨by omega, fun l' d => ?_⟩
        have hn : fbStep o (st ++ [b]) = none := by simp [fbStep, hfull.1]; omega
        rw [List.cons_append, fbGo, hn]
        simp only
        omega
      · have hx := fb_ext hs b (fun c hle => hfull ⟨c, hle⟩)
        have hff : ffull (o :: r) st.length i = ffull r st1.length (i + 1) := by
          rw [ffull]
          by_cases c5 : o.c = 5
          · rw [if_pos c5] at hlen ⊢
            rw [if_neg (by omega), hlen]
          · rw [if_neg c5] at hlen ⊢
            by_cases c7 : o.c = 7
            · rw [if_pos c7] at hlen ⊢; rw [hlen]
            · rw [if_neg c7] at hlen ⊢; rw [hlen]
        rw [hff]
        rcases full_ext b r st1 st' (i + 1) h with ⟨h1, h2⟩ | ⟨h1, h2⟩
        · exact .inl ⟨h1, by rw [fbRun, hx]; exact h2⟩
        · refine .inr ⟨h1, fun l' d => ?_⟩
          rw [List.cons_append, fbGo, hx]
          simp only
          rw [show i + d + 1 = i + 1 + d by omega]
          exact h2 l' d
/-- too deep once it lies in an if -/
theorem mir_full {p : List IOp} (hwf : firstBad p < 0) (hf : 0 ≤ ffull p 0 0) : firstBad (mirL p) = ffull p 0 0 + 1 := by
  have hr := fbRun_wf p [] 0 (fbGo_neg p [] 0 hwf)
  unfold firstBad mirL
  rw [fbGo, show fbStep ⟨5, 0, 0⟩ [] = some [false] by simp [fbStep]]
  simp only
  rcases full_ext false p [] [] 0 hr with ⟨h1, _⟩ | ⟨_, h2⟩
  · simp only [List.length_nil] at h1
    have h1' : ffull p 0 0 = -1 := h1
    omega
  · exact h2 _ 1
theorem mir_wf {p : List IOp} (hwf : firstBad p < 0) (hf : ¬ 0 ≤ ffull p 0 0) : firstBad (mirL p) < 0 := by
  have hr := fbRun_wf p [] 0 (fbGo_neg p [] 0 hwf)
  have hrun : ∀ b, fbRun p [b] = some [b] := by
    intro b
    rcases full_ext b p [] [] 0 hr with ⟨_, h1⟩ | ⟨h1, _⟩
    · exact h1
    · exact absurd h1 hf
  unfold firstBad mirL
  rw [fbGo, show fbStep ⟨5, 0, 0⟩ [] = some [false] by simp [fbStep]]
  simp only
  rw [fbGo_run p _ [false] [false] _ (hrun false), fbGo, show fbStep ⟨6, 0, 0⟩ [false] = some [true] by simp [fbStep]]
  simp only
  rw [fbGo_run p _ [true] [true] _ (hrun true), fbGo, show fbStep ⟨7, 0, 0⟩ [true] = some [] by simp [fbStep]]
  simp [fbGo]

/-! ### the machine inside a frame -/
structure Ext (a b : Nat) (rest : List Fr) (s s' : MS) : Prop where
  cur : s'.cur = s.cur
  et : s'.et = a + s.et
  ec : s'.ec = b + s.ec
  stk : s'.stk = s.stk ++ rest
theorem stk_step {o : IOp} {i : Nat} {s : MS} {st st' : List Bool} (hst : s.stk.map (·.inE) = st) (hs : fbStep o st = some st') : (mStep o i s).stk.map (·.inE) = st' := by
  obtain ⟨cur, et, ec, f, stk⟩ := s
  simp only at hst
  rcases fb_code hs with c | c | c | c | c | c | c
  iterate 3
    · have h := (fb_handles hs (by simp [c])).2
      subst h
      simp [mStep, c, hst]
  · have := fb_same (.inr (.inr (.inr c))) hs
    subst this
    simp [mStep, c, hst]
  · have h : false :: st = st' := by simp [fbStep, c] at hs; exact hs.2
    subst h
    simp [mStep, c, hst]
  · cases stk with
    | nil => simp only [List.map_nil] at hst; subst hst; simp [fbStep, c] at hs
    | cons fr r =>
      rw [← hst] at hs
      simp only [fbStep, c, List.map_cons] at hs
      cases hi : fr.inE <;> rw [hi] at hs <;> simp at hs
      rw [← hs]
      simp [mStep, c]
  · cases stk with
    | nil => simp only [List.map_nil] at hst; subst hst; simp [fbStep, c] at hs
    | cons fr r =>
      rw [← hst] at hs
      simp only [fbStep, c, List.map_cons] at hs
      cases hi : fr.inE <;> rw [hi] at hs <;> simp at hs
      rw [← hs]
      simp [mStep, c]
theorem ext_step {a b : Nat} {rest : List Fr} {s s' : MS} {o : IOp} (i j : Nat) {st st' : List Bool} (hs : fbStep o st = some st') (hst : s.stk.map (·.inE) = st) (h : Ext a b rest s s') : Ext a b rest (mStep o i s) (mStep o j s') := by
  obtain ⟨cur, et, ec, f, stk⟩ := s
  obtain ⟨cur', et', ec', f', stk'⟩ := s'
  obtain ⟨h1, h2, h3, h4⟩ := h
  simp only at h1 h2 h3 h4 hst
  subst h1 h2 h3 h4
  rcases fb_code hs with c | c | c | c | c | c | c
  iterate 3
    · simp only [mStep, c]
      exact ⟨rfl, rfl, rfl, rfl⟩
  · simp only [mStep, c]
    exact ⟨rfl, Nat.add_assoc _ _ _, Nat.add_assoc _ _ _, rfl⟩
  · simp only [mStep, c]
    exact ⟨rfl, rfl, rfl, rfl⟩
  · cases stk with
    | nil => simp only [List.map_nil] at hst; subst hst; simp [fbStep, c] at hs
    | cons fr r =>
      simp only [mStep, c]
      exact ⟨rfl, rfl, rfl, rfl⟩
  · cases stk with
    | nil => simp only [List.map_nil] at hst; subst hst; simp [fbStep, c] at hs
    | cons fr r =>
      simp only [mStep, c]
      exact ⟨rfl, rfl, rfl, rfl⟩
theorem f_sh (d : Nat) {s s' : MS} (o : IOp) (i : Nat) (hc : s'.cur = s.cur) (hf : s'.f = shF d s.f) : (mStep o (i + d) s').f = shF d (mStep o i s).f := by
  obtain ⟨cur, et, ec, f, stk⟩ := s
  obtain ⟨cur', et', ec', f', stk'⟩ := s'
  simp only at hc hf
  subst hc hf
  unfold mStep
  simp only
  split
  · exact flt_sh d o cur'.cnt i f 256
  · split
    · exact lks_sh d cur'.cnt i f 256
    · split
      · rfl
      · split
        · cases stk <;> cases stk' <;> rfl
        · cases stk <;> cases stk' <;> rfl
theorem mGo_ext {a b : Nat} {rest : List Fr} : ∀ (l : List IOp) (i j : Nat) (s s' : MS) (st st' : List Bool), fbRun l st = some st' → s.stk.map (·.inE) = st → Ext a b rest s s' →
    Ext a b rest (mGo l i s) (mGo l j s') ∧ (mGo l i s).stk.map (·.inE) = st'
  | [], i, j, s, s', st, st', hr, hst, h => by cases hr; exact ⟨h, hst⟩
  | o :: r, i, j, s, s', st, st', hr, hst, h => by
    rw [fbRun] at hr
    cases hs : fbStep o st with
    | none => rw [hs] at hr; cases hr
    | some st1 =>
      rw [hs] at hr
      rw [mGo, mGo]
      exact mGo_ext r (i + 1) (j + 1) _ _ st1 st' hr (stk_step hst hs) (ext_step i j hs hst h)
theorem mGo_fsh {a b : Nat} {rest : List Fr} (d : Nat) : ∀ (l : List IOp) (i : Nat) (s s' : MS) (st st' : List Bool), fbRun l st = some st' → s.stk.map (·.inE) = st → Ext a b rest s s' → s'.f = shF d s.f →
    (mGo l (i + d) s').f = shF d (mGo l i s).f
  | [], i, s, s', st, st', hr, hst, h, hf => hf
  | o :: r, i, s, s', st, st', hr, hst, h, hf => by
    rw [fbRun] at hr
    cases hs : fbStep o st with
    | none => rw [hs] at hr; cases hr
    | some st1 =>
      rw [hs] at hr
      rw [mGo, mGo, show i + d + 1 = i + 1 + d by omega]
      exact mGo_fsh d r (i + 1) _ _ st1 st' hr (stk_step hst hs) (ext_step i (i + d) hs hst h) (f_sh d o i h.cur hf)

/-! ### an early failure stays the first -/
theorem note_keep {x : Nat × Nat × Nat} {i k h : Nat} (hx : x.1 < i) : noteF (some x) (i, k, h) = some x := by
  unfold noteF
  simp only
  rw [if_neg]
  intro hl
  have := (lexB_iff _ _).1 hl
  simp only [lexLt] at this
  omega
theorem flt_keep {o : IOp} {c : Nat → Nat} {i : Nat} {x : Nat × Nat × Nat} (hx : x.1 < i) : ∀ K, flt o c i (some x) K = some x
  | 0 => rfl
  | K + 1 => by
    rw [flt, flt_keep hx K]
    split
    · rfl
    · cases stepM o K with
      | inl q => rfl
      | inr y => obtain ⟨k, h⟩ := y; exact note_keep hx
theorem lks_keep {c : Nat → Nat} {i : Nat} {x : Nat × Nat × Nat} (hx : x.1 < i) : ∀ K, lks c i (some x) K = some x
  | 0 => rfl
  | K + 1 => by
    rw [lks, lks_keep hx K]
    split
    · exact note_keep hx
    · rfl
theorem f_keep {o : IOp} {i : Nat} {s : MS} {x : Nat × Nat × Nat} (hf : s.f = some x) (hx : x.1 < i) : (mStep o i s).f = some x := by
  obtain ⟨cur, et, ec, f, stk⟩ := s
  simp only at hf
  subst hf
  unfold mStep
  simp only
  split
  · exact flt_keep hx 256
  · split
    · exact lks_keep hx 256
    · split
      · rfl
      · split
        · cases stk <;> rfl
        · cases stk <;> rfl
theorem mGo_keep {x : Nat × Nat × Nat} : ∀ (l : List IOp) (i : Nat) (s : MS), s.f = some x → x.1 < i → (mGo l i s).f = some x
  | [], i, s, hf, hx => hf
  | o :: r, i, s, hf, hx => by
    rw [mGo]
    exact mGo_keep r (i + 1) _ (f_keep hf hx) (by omega)
def FLt (n : Nat) (f : Fl) : Prop := ∀ x, f = some x → x.1 < n
theorem note_lt {n : Nat} {f : Fl} {x : Nat × Nat × Nat} (hf : FLt n f) (hx : x.1 < n) : FLt n (noteF f x) := by
  intro y hy
  unfold noteF at hy
  cases f with
  | none => cases hy; exact hx
  | some z =>
    simp only at hy
    split at hy
    · cases hy; exact hx
    · cases hy; exact hf _ rfl
theorem flt_lt {o : IOp} {c : Nat → Nat} {i n : Nat} {f : Fl} (hi : i < n) (hf : FLt n f) : ∀ K, FLt n (flt o c i f K)
  | 0 => hf
  | K + 1 => by
    rw [flt]
    split
    · exact flt_lt hi hf K
    · cases stepM o K with
      | inl q => exact flt_lt hi hf K
      | inr y => obtain ⟨k, h⟩ := y; exact note_lt (flt_lt hi hf K) hi
theorem lks_lt {c : Nat → Nat} {i n : Nat} {f : Fl} (hi : i < n) (hf : FLt n f) : ∀ K, FLt n (lks c i f K)
  | 0 => hf
  | K + 1 => by
    rw [lks]
    split
    · exact note_lt (lks_lt hi hf K) hi
    · exact lks_lt hi hf K
theorem f_lt {o : IOp} {i n : Nat} {s : MS} (hi : i < n) (hf : FLt n s.f) : FLt n (mStep o i s).f := by
  obtain ⟨cur, et, ec, f, stk⟩ := s
  unfold mStep
  simp only at hf ⊢
  split
  · exact flt_lt hi hf 256
  · split
    · exact lks_lt hi hf 256
    · split
      · exact hf
      · split
        · cases stk <;> exact hf
        · cases stk <;> exact hf
theorem mGo_lt {n : Nat} : ∀ (l : List IOp) (i : Nat) (s : MS), i + l.length ≤ n → FLt n s.f → FLt n (mGo l i s).f
  | [], i, s, hi, hf => hf
  | o :: r, i, s, hi, hf => by
    rw [List.length_cons] at hi
    rw [mGo]
    exact mGo_lt r (i + 1) _ (by omega) (f_lt (by omega) hf)

/-! ### the report -/
theorem mir_state {p : List IOp} (hwf : firstBad p < 0) : mGo (mirL p) 0 ms0 =
    ⟨⟨fun m => (mGo p 0 ms0).cur.cnt m + (mGo p 0 ms0).cur.cnt m, (mGo p 0 ms0).cur.tot + (mGo p 0 ms0).cur.tot⟩, (mGo p 0 ms0).et + (mGo p 0 ms0).et, (mGo p 0 ms0).ec + (mGo p 0 ms0).ec, shF 1 (mGo p 0 ms0).f, []⟩ := by
  have hr := fbRun_wf p [] 0 (fbGo_neg p [] 0 hwf)
  have hstk := stk_end hwf
  have hlt : FLt p.length (mGo p 0 ms0).f := mGo_lt p 0 ms0 (by omega) (by intro x hx; cases hx)
  unfold mirL
  rw [mGo, mGo_app, mGo, mGo_app, mGo, mGo]
  have hs1 : mStep ⟨5, 0, 0⟩ 0 ms0 = ⟨ms0.cur, 0, 0, none, [⟨ms0.cur, st0, false⟩]⟩ := by simp [mStep, ms0]
  rw [hs1]
  have hx1 : Ext 0 0 [⟨ms0.cur, st0, false⟩] ms0 ⟨ms0.cur, 0, 0, none, [⟨ms0.cur, st0, false⟩]⟩ := ⟨rfl, rfl, rfl, rfl⟩
  have h2 := (mGo_ext p 0 (0 + 1) ms0 _ [] [] hr rfl hx1).1
  have hf2 := mGo_fsh 1 p 0 ms0 _ [] [] hr rfl hx1 rfl
  generalize hs2 : mGo p (0 + 1) ⟨ms0.cur, 0, 0, none, [⟨ms0.cur, st0, false⟩]⟩ = s2 at h2 hf2
  obtain ⟨cur2, et2, ec2, f2, stk2⟩ := s2
  obtain ⟨e1, e2, e3, e4⟩ := h2
  simp only at e1 e2 e3 e4 hf2
  rw [hstk] at e4
  simp only [List.nil_append] at e4
  rw [Nat.zero_add] at e2 e3
  subst e1 e2 e3 e4 hf2
  have hs3 : mStep ⟨6, 0, 0⟩ (0 + 1 + p.length) ⟨(mGo p 0 ms0).cur, (mGo p 0 ms0).et, (mGo p 0 ms0).ec, shF 1 (mGo p 0 ms0).f, [⟨ms0.cur, st0, false⟩]⟩ =
      ⟨ms0.cur, (mGo p 0 ms0).et, (mGo p 0 ms0).ec, shF 1 (mGo p 0 ms0).f, [⟨ms0.cur, (mGo p 0 ms0).cur, true⟩]⟩ := by simp [mStep]
  rw [hs3]
  have hx3 : Ext (mGo p 0 ms0).et (mGo p 0 ms0).ec [⟨ms0.cur, (mGo p 0 ms0).cur, true⟩] ms0 ⟨ms0.cur, (mGo p 0 ms0).et, (mGo p 0 ms0).ec, shF 1 (mGo p 0 ms0).f, [⟨ms0.cur, (mGo p 0 ms0).cur, true⟩]⟩ := ⟨rfl, rfl, rfl, rfl⟩
  have h4 := (mGo_ext p 0 (0 + 1 + p.length + 1) ms0 _ [] [] hr rfl hx3).1
  have hf4 : (mGo p (0 + 1 + p.length + 1) ⟨ms0.cur, (mGo p 0 ms0).et, (mGo p 0 ms0).ec, shF 1 (mGo p 0 ms0).f, [⟨ms0.cur, (mGo p 0 ms0).cur, true⟩]⟩).f = shF 1 (mGo p 0 ms0).f := by
    cases hf : (mGo p 0 ms0).f with
    | none =>
      rw [hf] at hx3
      have := mGo_fsh (p.length + 2) p 0 ms0 _ [] [] hr rfl hx3 rfl
      rw [hf] at this
      rw [show 0 + 1 + p.length + 1 = 0 + (p.length + 2) by omega]
      exact this
    | some x =>
      obtain ⟨q, k, h⟩ := x
      have := hlt _ hf
      simp only at this
      exact mGo_keep p _ _ rfl (by simp only; omega)
  generalize hs4 : mGo p (0 + 1 + p.length + 1) ⟨ms0.cur, (mGo p 0 ms0).et, (mGo p 0 ms0).ec, shF 1 (mGo p 0 ms0).f, [⟨ms0.cur, (mGo p 0 ms0).cur, true⟩]⟩ = s4 at h4 hf4
  obtain ⟨cur4, et4, ec4, f4, stk4⟩ := s4
  obtain ⟨e1, e2, e3, e4⟩ := h4
  simp only at e1 e2 e3 e4 hf4
  rw [hstk] at e4
  simp only [List.nil_append] at e4
  subst e1 e2 e3 e4 hf4
  simp [mStep]
theorem lks_congr {c d : Nat → Nat} (h : ∀ m, 0 < c m ↔ 0 < d m) (i : Nat) (f : Fl) : ∀ K, lks c i f K = lks d i f K
  | 0 => rfl
  | K + 1 => by
    rw [lks, lks, lks_congr h i f K]
    have := h K
    by_cases hc : 0 < K ∧ 0 < c K
    · rw [if_pos hc, if_pos ⟨hc.1, this.1 hc.2⟩]
    · rw [if_neg hc, if_neg (fun hd => hc ⟨hd.1, this.2 hd.2⟩)]
def mirPos (n : Nat) (r : Rep) : Int := if r.ok = true then r.pos else if r.pos < n then r.pos + 1 else 2 * n + 3
theorem sg_two (P : Nat) : sg (sg P + sg P) = sg (P + P) := by unfold sg cap; omega
theorem mirPos_lt {n q : Nat} (hq : q < n) (k : Int) (h : Int) (a b : Nat) : mirPos n ⟨false, k, (q : Int), h, a, b⟩ = ((q + 1 : Nat) : Int) := by
  unfold mirPos
  simp only
  rw [if_neg (by simp), if_pos (by omega)]
  omega
theorem mirPos_end (n : Nat) (k : Int) (h : Int) (a b : Nat) : mirPos n ⟨false, k, (n : Int), h, a, b⟩ = ((n + (n + 3) : Nat) : Int) := by
  unfold mirPos
  simp only
  rw [if_neg (by simp), if_neg (by omega)]
  omega
theorem mir_rep' {p : List IOp} (hwf : firstBad p < 0) (hq : firstBad (mirL p) < 0) : ∃ P C : Nat, (analyzeR p).paths = sgN P ∧ (analyzeR p).clean = sgN C ∧
    analyzeR (mirL p) = ⟨(analyzeR p).ok, (analyzeR p).kind, mirPos p.length (analyzeR p), (analyzeR p).handle, sgN (P + P), sgN (C + C)⟩ := by
  have hlt : FLt p.length (mGo p 0 ms0).f := mGo_lt p 0 ms0 (by omega) (by intro x hx; cases hx)
  have hrq : analyzeR (mirL p) = mRep (2 * p.length + 3) (mGo (mirL p) 0 ms0) := by
    unfold analyzeR
    rw [if_neg (by omega), mirL_len]
  have hrp : analyzeR p = mRep p.length (mGo p 0 ms0) := by
    unfold analyzeR
    rw [if_neg (by omega)]
  rw [hrq, hrp, mir_state hwf]
  generalize mGo p 0 ms0 = s at *
  unfold mRep
  simp only
  rw [lks_congr (c := fun m => s.cur.cnt m + s.cur.cnt m) (d := s.cur.cnt) (fun m => by omega)]
  have e2 : s.et + s.et + (s.cur.tot + s.cur.tot) = s.et + s.cur.tot + (s.et + s.cur.tot) := by omega
  have e3 : s.ec + s.ec + (s.cur.cnt 0 + s.cur.cnt 0) = s.ec + s.cur.cnt 0 + (s.ec + s.cur.cnt 0) := by omega
  rw [e2, e3]
  cases hf : s.f with
  | some x =>
    obtain ⟨q, k, h⟩ := x
    have hx := hlt _ hf
    simp only at hx
    have e1 : lks s.cur.cnt (2 * p.length + 3) (shF 1 (some (q, k, h))) 256 = some (q + 1, k, h) := lks_keep (by simp only; omega) 256
    rw [e1, lks_keep hx 256]
    refine ⟨s.et + s.cur.tot, s.ec + s.cur.cnt 0, rfl, rfl, ?_⟩
    simp only [repOf]
    rw [mirPos_lt hx]
  | none =>
    have e1 : lks s.cur.cnt (2 * p.length + 3) (shF 1 none) 256 = shF (p.length + 3) (lks s.cur.cnt p.length none 256) := by
      rw [← lks_sh, show p.length + (p.length + 3) = 2 * p.length + 3 by omega]; rfl
    rw [e1]
    cases hl : lks s.cur.cnt p.length none 256 with
    | none => exact ⟨s.et + s.cur.tot, s.et + s.cur.tot, rfl, rfl, rfl⟩
    | some x =>
      obtain ⟨q, k, h⟩ := x
      refine ⟨s.et + s.cur.tot, s.ec + s.cur.cnt 0, rfl, rfl, ?_⟩
      have hq : q = p.length := by
        have := lks_least s.cur.cnt p.length none 256
        rw [hl] at this
        rcases this with ⟨h0, _⟩ | ⟨y, h1, h2, _⟩
        · cases h0
        · cases h1
          rcases h2 with h2 | ⟨m, _, _, _, h3⟩
          · cases h2
          · cases h3; rfl
      subst hq
      simp only [repOf, shF]
      rw [mirPos_end]
theorem mir_rep {p : List IOp} (hwf : firstBad p < 0) (hq : firstBad (mirL p) < 0) : ∃ P C : Nat, (analyzeR p).paths = sg P ∧ (analyzeR p).clean = sg C ∧
    analyzeR (mirL p) = ⟨(analyzeR p).ok, (analyzeR p).kind, mirPos p.length (analyzeR p), (analyzeR p).handle, sg (P + P), sg (C + C)⟩ := mir_rep' hwf hq
end Go.Proofs.Yahagw
