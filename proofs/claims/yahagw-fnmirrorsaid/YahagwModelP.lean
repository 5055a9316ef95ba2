/-
  spec.Model as a machine over positions; it answers as the machine with a stack.
-/
import Derived.Test.YahagwAnStrict
set_option linter.unusedVariables false
set_option linter.unusedSimpArgs false
namespace Go.Proofs.Yahagw

def sumN (c : Nat → Nat) : Nat → Nat
  | 0 => 0
  | k + 1 => sumN c k + c k
/-- the walks that fail at one operation -/
def flc (o : IOp) (c : Nat → Nat) : Nat → Nat
  | 0 => 0
  | k + 1 => flc o c k + (match stepM o k with | .inl _ => 0 | .inr _ => c k)
structure PS where
  live : Nat → Nat → Nat
  gone : Nat → Nat
  f : Fl
  paths : Nat
  clean : Nat
def addL (live : Nat → Nat → Nat) (p : Nat) (c : Nat → Nat) : Nat → Nat → Nat := fun q m => if q = p then live q m + c m else live q m
def addG (gone : Nat → Nat) (p : Nat) (x : Nat) : Nat → Nat := fun q => if q = p then gone q + x else gone q
def push1 (s : PS) (i to : Nat) : PS := { s with live := addL s.live to (s.live i), gone := addG s.gone to (s.gone i) }
def wipe (s : PS) (i : Nat) : PS := { s with live := fun q m => if q = i then 0 else s.live q m }
def pAct (el en : Nat → Nat) (o : IOp) (i : Nat) (s : PS) : PS :=
  if o.c = 1 ∨ o.c = 2 ∨ o.c = 3 then { s with live := addL s.live (i + 1) (nxt o (s.live i) 256), gone := addG s.gone (i + 1) (s.gone i + flc o (s.live i) 256), f := flt o (s.live i) i s.f 256 }
  else if o.c = 4 then { s with paths := s.paths + s.gone i + sumN (s.live i) 256, clean := s.clean + s.live i 0, f := lks (s.live i) i s.f 256 }
  else if o.c = 5 then push1 (push1 s i (i + 1)) i (el i + 1)
  else if o.c = 6 then push1 s i (en i + 1)
  else push1 s i (i + 1)
def pStep (el en : Nat → Nat) (o : IOp) (i : Nat) (s : PS) : PS := wipe (pAct el en o i s) i
def pGo (el en : Nat → Nat) : List IOp → Nat → PS → PS
  | [], _, s => s
  | o :: r, i, s => pGo el en r (i + 1) (pStep el en o i s)
def ps0 : PS := ⟨fun q m => if q = 0 then one0 m else 0, fun _ => 0, none, 0, 0⟩
def pRep (n : Nat) (s : PS) : Rep := repOf (lks (s.live n) n s.f 256) (s.paths + s.gone n + sumN (s.live n) 256) (s.clean + s.live n 0)

/-- where the open ifs find their else and their end (innermost first) -/
def fut : List IOp → Nat → List (Nat × Nat)
  | [], _ => []
  | o :: r, i =>
    if o.c = 5 then (fut r (i + 1)).tail
    else if o.c = 6 then (match fut r (i + 1) with | (_, en) :: ps => (i, en) :: ps | [] => [])
    else if o.c = 7 then (i, i) :: fut r (i + 1)
    else fut r (i + 1)
def Ord : Nat → List Bool → List (Nat × Nat) → Prop
  | _, [], [] => True
  | lo, b :: st, (el, en) :: ps => (b = false → lo ≤ el ∧ el < en) ∧ lo ≤ en ∧ Ord (en + 1) st ps
  | _, _, _ => False
theorem Ord.mono {lo lo' : Nat} (h : lo' ≤ lo) : ∀ {st : List Bool} {ps : List (Nat × Nat)}, Ord lo st ps → Ord lo' st ps
  | [], [], _ => trivial
  | b :: st, (el, en) :: ps, ⟨h1, h2, h3⟩ => ⟨fun hb => ⟨by have := (h1 hb).1; omega, (h1 hb).2⟩, by omega, h3⟩
  | [], _ :: _, h => h.elim
  | _ :: _, [], h => h.elim
theorem fut_ord : ∀ (l : List IOp) (i : Nat) (st : List Bool), fbGo l st i = -1 → Ord i st (fut l i)
  | [], i, st, h => by
    rw [fbGo] at h
    cases st with
    | nil => trivial
    | cons b r => simp at h
  | o :: r, i, st, h => by
    rw [fbGo] at h
    cases hstep : fbStep o st with
    | none => rw [hstep] at h; simp at h
    | some st' =>
      rw [hstep] at h
      simp only at h
      have ih := fut_ord r (i + 1) st' h
      rcases fb_code hstep with c | c | c | c | c | c | c
      · have := (fb_handles hstep (by omega)).2; subst this
        simp only [fut, c]; simp; exact ih.mono (by omega)
      · have := (fb_handles hstep (by omega)).2; subst this
        simp only [fut, c]; simp; exact ih.mono (by omega)
      · have := (fb_handles hstep (by omega)).2; subst this
        simp only [fut, c]; simp; exact ih.mono (by omega)
      · have he : st' = st := by simp [fbStep, c] at hstep; exact hstep.symm
        subst he
        simp only [fut, c]; simp; exact ih.mono (by omega)
      · have he : false :: st = st' := by simp [fbStep, c] at hstep; exact hstep.2
        subst he
        simp only [fut, c]
        simp
        cases hf : fut r (i + 1) with
        | nil => rw [hf] at ih; exact ih.elim
        | cons x ps =>
          obtain ⟨el, en⟩ := x
          rw [hf] at ih
          obtain ⟨h1, h2, h3⟩ := ih
          exact h3.mono (by omega)
      · cases st with
        | nil => simp [fbStep, c] at hstep
        | cons b s =>
          cases b with
          | true => simp [fbStep, c] at hstep
          | false =>
            have he : true :: s = st' := by simpa [fbStep, c] using hstep
            subst he
            simp only [fut, c]
            simp
            cases hf : fut r (i + 1) with
            | nil => rw [hf] at ih; exact ih.elim
            | cons x ps =>
              obtain ⟨el, en⟩ := x
              rw [hf] at ih
              obtain ⟨h1, h2, h3⟩ := ih
              exact ⟨fun _ => ⟨Nat.le_refl _, by omega⟩, by omega, h3⟩
      · cases st with
        | nil => simp [fbStep, c] at hstep
        | cons b s =>
          cases b with
          | false => simp [fbStep, c] at hstep
          | true =>
            have he : s = st' := by simpa [fbStep, c] using hstep
            subst he
            simp only [fut, c]
            simp
            exact ⟨by simp, Nat.le_refl _, ih⟩

/-! ### counts -/
theorem sumN_add (a b : Nat → Nat) : ∀ K, sumN (fun m => a m + b m) K = sumN a K + sumN b K
  | 0 => rfl
  | K + 1 => by simp only [sumN, sumN_add a b K]; omega
theorem sumN_zero : ∀ K, sumN (fun _ => 0) K = 0
  | 0 => rfl
  | K + 1 => by simp only [sumN, sumN_zero K]
theorem sumN_at (q x : Nat) : ∀ K, sumN (fun m => if m = q then x else 0) K = if q < K then x else 0
  | 0 => by simp [sumN]
  | K + 1 => by
    simp only [sumN, sumN_at q x K]
    by_cases h1 : q < K
    · have : ¬ K = q := by omega
      simp [h1, this]; omega
    · by_cases h2 : K = q
      · subst h2; simp
      · have : ¬ q < K + 1 := by omega
        simp [h1, h2, this]
theorem sum_nxt {o : IOp} (hh : handlesOK o) (c : Nat → Nat) : ∀ K, K ≤ 256 → sumN (nxt o c K) 256 + flc o c K = sumN c K
  | 0, _ => by
    have : nxt o c 0 = fun _ => 0 := by funext m; rfl
    rw [this, sumN_zero]; rfl
  | K + 1, hK => by
    have ih := sum_nxt hh c K (by omega)
    have e : nxt o c (K + 1) = fun m => nxt o c K m + (if goes o K m = true then c K else 0) := by funext m; rfl
    rw [e, sumN_add, show sumN c (K + 1) = sumN c K + c K from rfl, show flc o c (K + 1) = flc o c K + (match stepM o K with | .inl _ => 0 | .inr _ => c K) from rfl]
    cases hs : stepM o K with
    | inl q =>
      have e2 : (fun m => if goes o K m = true then c K else 0) = fun m => if m = q then c K else 0 := by
        funext m
        by_cases hm : m = q
        · subst hm; rw [if_pos (goes_iff.2 hs), if_pos rfl]
        · rw [if_neg (fun hg => hm (by have := goes_iff.1 hg; rw [hs] at this; cases this; rfl)), if_neg hm]
      rw [e2, sumN_at, if_pos (stepM_lt hh.1 hh.2 (by omega) hs)]
      simp only; omega
    | inr x =>
      have e2 : (fun m => if goes o K m = true then c K else 0) = fun _ => 0 := by
        funext m
        rw [if_neg]
        intro hg
        have := goes_iff.1 hg
        rw [hs] at this; cases this
      rw [e2, sumN_zero]
      simp only; omega

/-! ### the two machines -/
def At (s : PS) (p : Nat) (x : St) : Prop := s.live p = x.cnt ∧ s.gone p + sumN (s.live p) 256 = x.tot
def Zero (s : PS) (p : Nat) : Prop := s.live p = (fun _ => 0) ∧ s.gone p = 0
def Pend (s : PS) : Nat → List Fr → List (Nat × Nat) → Prop
  | lo, [], [] => ∀ p, lo < p → Zero s p
  | lo, fr :: r, (el, en) :: ps =>
    if fr.inE = true then (∀ p, lo < p → p ≤ en → Zero s p) ∧ At s (en + 1) fr.t ∧ Pend s (en + 1) r ps
    else (∀ p, lo < p → p ≤ el → Zero s p) ∧ At s (el + 1) fr.e ∧ (∀ p, el + 1 < p → p ≤ en + 1 → Zero s p) ∧ Pend s (en + 1) r ps
  | _, _, _ => False
theorem Zero.at {s : PS} {p : Nat} (h : Zero s p) : At s p st0 := ⟨h.1, by rw [h.1, h.2, sumN_zero]; rfl⟩
/-- what lies beyond is not touched -/
theorem Pend.cong {s s' : PS} : ∀ {stk : List Fr} {ps : List (Nat × Nat)} {st : List Bool} {lo : Nat}, Ord lo st ps → stk.map (·.inE) = st → (∀ p, lo < p → s'.live p = s.live p ∧ s'.gone p = s.gone p) → Pend s lo stk ps → Pend s' lo stk ps
  | [], [], st, lo, _, _, he, h => fun p hp => ⟨by rw [(he p hp).1]; exact (h p hp).1, by rw [(he p hp).2]; exact (h p hp).2⟩
  | fr :: r, (el, en) :: ps, st, lo, ho, hst, he, h => by
    cases st with
    | nil => exact ho.elim
    | cons b st' =>
      obtain ⟨o1, o2, o3⟩ := ho
      simp only [List.map_cons, List.cons.injEq] at hst
      unfold Pend at h ⊢
      split at h
      · rename_i hin
        rw [if_pos hin]
        obtain ⟨h1, h2, h3⟩ := h
        refine ⟨fun p hp hq => ⟨by rw [(he p hp).1]; exact (h1 p hp hq).1, by rw [(he p hp).2]; exact (h1 p hp hq).2⟩, ?_, Pend.cong o3 hst.2 (fun p hp => he p (by omega)) h3⟩
        have := he (en + 1) (by omega)
        unfold At; rw [this.1, this.2]; exact h2
      · rename_i hin
        rw [if_neg hin]
        obtain ⟨h1, h2, h3, h4⟩ := h
        have hb := o1 (by rw [← hst.1]; simpa using hin)
        refine ⟨fun p hp hq => ⟨by rw [(he p hp).1]; exact (h1 p hp hq).1, by rw [(he p hp).2]; exact (h1 p hp hq).2⟩, ?_, fun p hp hq => ⟨by rw [(he p (by omega)).1]; exact (h3 p hp hq).1, by rw [(he p (by omega)).2]; exact (h3 p hp hq).2⟩, Pend.cong o3 hst.2 (fun p hp => he p (by omega)) h4⟩
        have := he (el + 1) (by omega)
        unfold At; rw [this.1, this.2]; exact h2
  | [], _ :: _, _, _, _, _, _, h => h.elim
  | _ :: _, [], _, _, _, _, _, h => h.elim
/-- a later beginning -/
theorem Pend.later {s : PS} {lo lo' : Nat} (hl : lo ≤ lo') : ∀ {stk : List Fr} {ps : List (Nat × Nat)}, Pend s lo stk ps → Pend s lo' stk ps
  | [], [], h => fun p hp => h p (by omega)
  | fr :: r, (el, en) :: ps, h => by
    unfold Pend at h ⊢
    split at h
    · rename_i hin; rw [if_pos hin]; exact ⟨fun p hp => h.1 p (by omega), h.2⟩
    · rename_i hin; rw [if_neg hin]; exact ⟨fun p hp => h.1 p (by omega), h.2⟩
  | [], _ :: _, h => h.elim
  | _ :: _, [], h => h.elim
/-- nothing lies between here and the first place that waits -/
theorem Pend.zero {s : PS} {lo lo' : Nat} : ∀ {stk : List Fr} {ps : List (Nat × Nat)} {st : List Bool}, Ord lo' st ps → stk.map (·.inE) = st → Pend s lo stk ps → ∀ p, lo < p → p ≤ lo' → Zero s p
  | [], [], st, _, _, h => fun p hp _ => h p hp
  | fr :: r, (el, en) :: ps, st, ho, hst, h => by
    cases st with
    | nil => exact ho.elim
    | cons b st' =>
      obtain ⟨o1, o2, o3⟩ := ho
      simp only [List.map_cons, List.cons.injEq] at hst
      intro p hp hq
      unfold Pend at h
      split at h
      · exact h.1 p hp (by omega)
      · rename_i hin
        have hb := o1 (by rw [← hst.1]; simpa using hin)
        exact h.1 p hp (by omega)
  | [], _ :: _, _, _, _, h => h.elim
  | _ :: _, [], _, _, _, h => h.elim

structure Same (l : List IOp) (i : Nat) (s : PS) (t : MS) : Prop where
  cur : At s i t.cur
  pend : Pend s i t.stk (fut l i)
  f : s.f = t.f
  paths : s.paths = t.et
  clean : s.clean = t.ec

theorem live_wipe {s : PS} {i p : Nat} (h : p ≠ i) : (wipe s i).live p = s.live p := by funext m; simp [wipe, h]
theorem add_at {live : Nat → Nat → Nat} {p : Nat} {c : Nat → Nat} : addL live p c p = fun m => live p m + c m := by funext m; simp [addL]
theorem add_ne {live : Nat → Nat → Nat} {p q : Nat} {c : Nat → Nat} (h : q ≠ p) : addL live p c q = live q := by funext m; simp [addL, h]
theorem addg_at {gone : Nat → Nat} {p x : Nat} : addG gone p x p = gone p + x := by simp [addG]
theorem addg_ne {gone : Nat → Nat} {p q x : Nat} (h : q ≠ p) : addG gone p x q = gone q := by simp [addG, h]

/-- the arrays that 'matching' lays -/
def MatchOK (L : List IOp) (el en : Nat → Nat) : Prop := ∀ i o, L[i]? = some o → o.c = 5 → ∀ e n ps, fut (L.drop (i + 1)) (i + 1) = (e, n) :: ps → el i = e ∧ en e = n

theorem sim_go (L : List IOp) (el en : Nat → Nat) (hm : MatchOK L el en) : ∀ (l : List IOp) (i : Nat) (s : PS) (t : MS) (st : List Bool), L.drop i = l → fbGo l st i = -1 → t.stk.map (·.inE) = st →
    (∀ (j : Nat) (fr : Fr) (x : Nat × Nat), t.stk[j]? = some fr → (fut l i)[j]? = some x → fr.inE = false → en x.1 = x.2) → Same l i s t → Same [] (i + l.length) (pGo el en l i s) (mGo l i t)
  | [], i, s, t, st, hl, hwf, hst, hen, h => by simpa [pGo, mGo] using h
  | o :: r, i, s, t, st, hl, hwf, hst, hen, h => by
    have hwf0 := hwf
    have hord0 := fut_ord (o :: r) i st hwf
    have ho : L[i]? = some o := by
      have := congrArg (fun x => x[0]?) hl
      simpa using this
    have hr : L.drop (i + 1) = r := by
      rw [drop_cons ho] at hl
      exact (List.cons.inj hl).2
    rw [fbGo] at hwf
    cases hstep : fbStep o st with
    | none => rw [hstep] at hwf; simp at hwf
    | some st' =>
      rw [hstep] at hwf
      simp only at hwf
      have hord := fut_ord r (i + 1) st' hwf
      rw [pGo, mGo, show i + (o :: r).length = (i + 1) + r.length by simp; omega]
      obtain ⟨hcur, hpend, hf, hp, hc⟩ := h
      have h123 : (o.c = 1 ∨ o.c = 2 ∨ o.c = 3) → Same [] (i + 1 + r.length) (pGo el en r (i + 1) (pStep el en o i s)) (mGo r (i + 1) (mStep o i t)) := by
        intro hcc
        obtain ⟨hh, he⟩ := fb_handles hstep hcc
        subst he
        have hfut : fut (o :: r) i = fut r (i + 1) := by
          rw [fut, if_neg (by omega), if_neg (by omega), if_neg (by omega)]
        rw [hfut] at hpend hen
        have hz := hpend.zero hord hst (i + 1) (by omega) (Nat.le_refl _)
        refine sim_go L el en hm r (i + 1) _ _ st' hr hwf (by simp only [mStep, if_pos hcc]; exact hst) (by simp only [mStep, if_pos hcc]; exact hen) ⟨?_, ?_, ?_, ?_, ?_⟩
        · simp only [mStep, if_pos hcc, pStep, pAct]
          refine ⟨?_, ?_⟩
          · rw [live_wipe (by omega)]; simp only; rw [add_at, hz.1, hcur.1]; funext m; simp
          · simp only [wipe]
            rw [show (fun m => if i + 1 = i then 0 else addL s.live (i + 1) (nxt o (s.live i) 256) (i + 1) m) = nxt o (s.live i) 256 by
              funext m; rw [if_neg (by omega), add_at, hz.1]; simp]
            rw [addg_at, hz.2]
            have := sum_nxt hh (s.live i) 256 (Nat.le_refl _)
            have := hcur.2
            omega
        · simp only [mStep, if_pos hcc]
          refine Pend.cong hord hst ?_ (hpend.later (by omega))
          intro p hp
          simp only [pStep, pAct, if_pos hcc]
          exact ⟨by rw [live_wipe (by omega)]; simp only; rw [add_ne (by omega)], by simp only [wipe]; rw [addg_ne (by omega)]⟩
        · simp only [mStep, if_pos hcc, pStep, pAct, wipe]; rw [hf, hcur.1]
        · simp only [mStep, if_pos hcc, pStep, pAct, wipe]; exact hp
        · simp only [mStep, if_pos hcc, pStep, pAct, wipe]; exact hc
      rcases fb_code hstep with c | c | c | c | c | c | c
      · exact h123 (by omega)
      · exact h123 (by omega)
      · exact h123 (by omega)
      · have he : st' = st := by simp [fbStep, c] at hstep; exact hstep.symm
        subst he
        have hfut : fut (o :: r) i = fut r (i + 1) := by simp [fut, c]
        rw [hfut] at hpend hen
        have hz := hpend.zero hord hst (i + 1) (by omega) (Nat.le_refl _)
        have hms : mStep o i t = { t with cur := st0, et := t.et + t.cur.tot, ec := t.ec + t.cur.cnt 0, f := lks t.cur.cnt i t.f 256 } := by simp [mStep, c]
        have hps : pStep el en o i s = wipe { s with paths := s.paths + s.gone i + sumN (s.live i) 256, clean := s.clean + s.live i 0, f := lks (s.live i) i s.f 256 } i := by simp [pStep, pAct, c]
        rw [hms, hps]
        refine sim_go L el en hm r (i + 1) _ _ st' hr hwf hst hen ⟨?_, ?_, ?_, ?_, ?_⟩
        · refine (Zero.at ⟨?_, ?_⟩)
          · rw [live_wipe (by omega)]; exact hz.1
          · exact hz.2
        · refine Pend.cong hord hst ?_ (hpend.later (by omega))
          intro p hp
          exact ⟨by rw [live_wipe (by omega)], rfl⟩
        · simp only [wipe]; rw [hf, hcur.1]
        · simp only [wipe]; rw [← hp]; have := hcur.2; omega
        · simp only [wipe]; rw [← hc, hcur.1]
      · have he : false :: st = st' := by simp [fbStep, c] at hstep; exact hstep.2
        subst he
        have hms : mStep o i t = { t with stk := ⟨t.cur, st0, false⟩ :: t.stk } := by simp [mStep, c]
        have hps : pStep el en o i s = wipe (push1 (push1 s i (i + 1)) i (el i + 1)) i := by simp [pStep, pAct, c]
        cases hfr : fut r (i + 1) with
        | nil => rw [hfr] at hord; exact hord.elim
        | cons x ps =>
          obtain ⟨e, n⟩ := x
          have hfut : fut (o :: r) i = ps := by simp [fut, c, hfr]
          rw [hfut] at hpend hen
          rw [hfr] at hord
          obtain ⟨o1, o2, o3⟩ := hord
          obtain ⟨o4, o5⟩ := o1 rfl
          obtain ⟨hel, hen1⟩ := hm i o ho c e n ps (by rw [hr]; exact hfr)
          rw [hms, hps, hel]
          have hz1 := hpend.zero o3 hst (i + 1) (by omega) (by omega)
          have hz2 := hpend.zero o3 hst (e + 1) (by omega) (by omega)
          have hlive : ∀ p, i < p → (wipe (push1 (push1 s i (i + 1)) i (e + 1)) i).live p = if p = i + 1 ∨ p = e + 1 then s.live i else s.live p := by
            intro p hp
            rw [live_wipe (by omega)]
            simp only [push1]
            rw [show addL s.live (i + 1) (s.live i) i = s.live i from add_ne (by omega)]
            by_cases h1 : p = e + 1
            · subst h1
              rw [add_at, add_ne (by omega), hz2.1]
              simp
            · rw [add_ne h1]
              by_cases h2 : p = i + 1
              · subst h2
                rw [add_at, hz1.1]
                simp
              · rw [add_ne h2]; simp [h1, h2]
          have hgone : ∀ p, i < p → (wipe (push1 (push1 s i (i + 1)) i (e + 1)) i).gone p = if p = i + 1 ∨ p = e + 1 then s.gone i else s.gone p := by
            intro p hp
            simp only [wipe, push1]
            rw [show addG s.gone (i + 1) (s.gone i) i = s.gone i from addg_ne (by omega)]
            by_cases h1 : p = e + 1
            · subst h1
              rw [addg_at, addg_ne (by omega), hz2.2]
              simp
            · rw [addg_ne h1]
              by_cases h2 : p = i + 1
              · subst h2
                rw [addg_at, hz1.2]
                simp
              · rw [addg_ne h2]; simp [h1, h2]
          refine sim_go L el en hm r (i + 1) _ _ (false :: st) hr hwf (by simp [hst]) ?_ ⟨?_, ?_, hf, hp, hc⟩
          · intro j fr x hj hx hin
            rw [hfr] at hx
            cases j with
            | zero => simp at hx; subst hx; exact hen1
            | succ j => simp at hj hx; exact hen j fr x hj hx hin
          · unfold At
            rw [hlive (i + 1) (by omega), hgone (i + 1) (by omega)]
            simp only [true_or, if_true]
            exact hcur
          · rw [hfr]
            unfold Pend
            simp only [Bool.false_eq_true, if_false]
            refine ⟨?_, ?_, ?_, ?_⟩
            · intro p hp hq
              unfold Zero
              rw [hlive p (by omega), hgone p (by omega), if_neg (by omega), if_neg (by omega)]
              exact hpend.zero o3 hst p (by omega) (by omega)
            · unfold At
              rw [hlive (e + 1) (by omega), hgone (e + 1) (by omega)]
              simp only [or_true, if_true]
              exact hcur
            · intro p hp hq
              unfold Zero
              rw [hlive p (by omega), hgone p (by omega), if_neg (by omega), if_neg (by omega)]
              exact hpend.zero o3 hst p (by omega) (by omega)
            · refine Pend.cong o3 hst ?_ (hpend.later (by omega))
              intro p hp
              rw [hlive p (by omega), hgone p (by omega), if_neg (by omega), if_neg (by omega)]
              exact ⟨rfl, rfl⟩
      · cases hs : t.stk with
        | nil =>
          rw [hs] at hst; simp at hst; subst hst
          simp [fbStep, c] at hstep
        | cons fr rest =>
          rw [hs] at hst hpend hen
          simp only [List.map_cons] at hst
          subst hst
          cases hin : fr.inE with
          | true => rw [hin] at hstep; simp [fbStep, c] at hstep
          | false =>
            rw [hin] at hstep
            have he : true :: rest.map (·.inE) = st' := by simpa [fbStep, c] using hstep
            subst he
            have hms : mStep o i t = { t with cur := fr.e, stk := ⟨fr.e, t.cur, true⟩ :: rest } := by simp [mStep, c, hs]
            have hps : pStep el en o i s = wipe (push1 s i (en i + 1)) i := by simp [pStep, pAct, c]
            cases hfr : fut r (i + 1) with
            | nil => rw [hfr] at hord; exact hord.elim
            | cons x ps =>
              obtain ⟨e, n⟩ := x
              have hfut : fut (o :: r) i = (i, n) :: ps := by simp [fut, c, hfr]
              rw [hfut] at hpend hen
              rw [hfr] at hord
              obtain ⟨o1, o2, o3⟩ := hord
              have hen1 : en i = n := hen 0 fr (i, n) rfl rfl hin
              rw [hms, hps, hen1]
              unfold Pend at hpend
              rw [hin] at hpend
              simp only [Bool.false_eq_true, if_false] at hpend
              obtain ⟨p1, p2, p3, p4⟩ := hpend
              have hz := p3 (n + 1) (by omega) (by omega)
              have hlive : ∀ p, i < p → (wipe (push1 s i (n + 1)) i).live p = if p = n + 1 then s.live i else s.live p := by
                intro p hp
                rw [live_wipe (by omega)]
                simp only [push1]
                by_cases h1 : p = n + 1
                · subst h1; rw [add_at, hz.1]; simp
                · rw [add_ne h1]; simp [h1]
              have hgone : ∀ p, i < p → (wipe (push1 s i (n + 1)) i).gone p = if p = n + 1 then s.gone i else s.gone p := by
                intro p hp
                simp only [wipe, push1]
                by_cases h1 : p = n + 1
                · subst h1; rw [addg_at, hz.2]; simp
                · rw [addg_ne h1]; simp [h1]
              refine sim_go L el en hm r (i + 1) _ _ (true :: rest.map (·.inE)) hr hwf (by simp) ?_ ⟨?_, ?_, hf, hp, hc⟩
              · intro j fr' x hj hx hin'
                rw [hfr] at hx
                cases j with
                | zero => simp at hj; subst hj; simp at hin'
                | succ j => simp at hj hx; exact hen (j + 1) fr' x (by simpa using hj) (by simpa using hx) hin'
              · unfold At
                rw [hlive (i + 1) (by omega), hgone (i + 1) (by omega), if_neg (by omega), if_neg (by omega)]
                exact p2
              · rw [hfr]
                unfold Pend
                simp only [if_true]
                refine ⟨?_, ?_, ?_⟩
                · intro p hp hq
                  unfold Zero
                  rw [hlive p (by omega), hgone p (by omega), if_neg (by omega), if_neg (by omega)]
                  exact p3 p (by omega) (by omega)
                · unfold At
                  rw [hlive (n + 1) (by omega), hgone (n + 1) (by omega)]
                  simp only [if_true]
                  exact hcur
                · refine Pend.cong o3 rfl ?_ p4
                  intro p hp
                  rw [hlive p (by omega), hgone p (by omega), if_neg (by omega), if_neg (by omega)]
                  exact ⟨rfl, rfl⟩
      · cases hs : t.stk with
        | nil =>
          rw [hs] at hst; simp at hst; subst hst
          simp [fbStep, c] at hstep
        | cons fr rest =>
          rw [hs] at hst hpend hen
          simp only [List.map_cons] at hst
          subst hst
          cases hin : fr.inE with
          | false => rw [hin] at hstep; simp [fbStep, c] at hstep
          | true =>
            rw [hin] at hstep
            have he : rest.map (·.inE) = st' := by simpa [fbStep, c] using hstep
            subst he
            have hms : mStep o i t = { t with cur := ⟨fun m => t.cur.cnt m + fr.t.cnt m, t.cur.tot + fr.t.tot⟩, stk := rest } := by simp [mStep, c, hs]
            have hps : pStep el en o i s = wipe (push1 s i (i + 1)) i := by simp [pStep, pAct, c]
            have hfut : fut (o :: r) i = (i, i) :: fut r (i + 1) := by simp [fut, c]
            rw [hfut] at hpend hen
            rw [hms, hps]
            unfold Pend at hpend
            rw [hin] at hpend
            simp only [if_true] at hpend
            obtain ⟨p1, p2, p3⟩ := hpend
            refine sim_go L el en hm r (i + 1) _ _ (rest.map (·.inE)) hr hwf rfl ?_ ⟨?_, ?_, hf, hp, hc⟩
            · intro j fr' x hj hx hin'
              exact hen (j + 1) fr' x (by simpa using hj) (by simpa using hx) hin'
            · have e1 : (wipe (push1 s i (i + 1)) i).live (i + 1) = fun m => t.cur.cnt m + fr.t.cnt m := by
                rw [live_wipe (by omega)]
                simp only [push1]
                rw [add_at, p2.1, hcur.1]
                funext m; omega
              refine ⟨e1, ?_⟩
              rw [e1, sumN_add]
              simp only [wipe, push1]
              rw [addg_at]
              have h1 := hcur.2
              have h2 := p2.2
              rw [hcur.1] at h1
              rw [p2.1] at h2
              omega
            · refine Pend.cong hord rfl ?_ p3
              intro p hp
              exact ⟨by rw [live_wipe (by omega)]; simp only [push1]; rw [add_ne (by omega)], by simp only [wipe, push1]; rw [addg_ne (by omega)]⟩

theorem model_eq (L : List IOp) (el en : Nat → Nat) (hm : MatchOK L el en) (hwf : firstBad L < 0) : pRep L.length (pGo el en L 0 ps0) = analyzeR L := by
  have hwf1 : fbGo L [] 0 = -1 := fbGo_neg L [] 0 hwf
  have h0 : Same L 0 ps0 ms0 := by
    refine ⟨⟨?_, ?_⟩, ?_, rfl, rfl, rfl⟩
    · funext m; simp [ps0, ms0]
    · have : ps0.live 0 = one0 := by funext m; simp [ps0]
      rw [this]
      have e : one0 = fun m => if m = 0 then 1 else 0 := rfl
      have e2 : ps0.gone 0 = 0 := rfl
      have e3 : ms0.cur.tot = 1 := rfl
      rw [e, sumN_at, e2, e3]
      simp
    · have hf := fut_ord L 0 [] hwf1
      cases hfu : fut L 0 with
      | nil =>
        intro p hp
        refine ⟨?_, rfl⟩
        funext m
        have : ¬ p = 0 := by omega
        simp [ps0, this]
      | cons x ps => rw [hfu] at hf; exact hf.elim
  have h := sim_go L el en hm L 0 ps0 ms0 [] (by simp) hwf1 rfl (by intro j fr x hj; simp [ms0] at hj) h0
  simp only [Nat.zero_add] at h
  unfold analyzeR pRep mRep
  rw [if_neg (by omega)]
  obtain ⟨⟨h1, h2⟩, _, h3, h4, h5⟩ := h
  rw [h3, h4, h5, h1]
  rw [h1] at h2
  rw [Nat.add_assoc, h2]
end Go.Proofs.Yahagw
