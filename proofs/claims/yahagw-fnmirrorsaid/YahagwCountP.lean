/-
  The walks counted: the machine's totals alone; the chain of FnPaths.
-/
import Derived.Test.YahagwInv
set_option linter.unusedVariables false
set_option linter.unusedSimpArgs false
namespace Go.Proofs.Yahagw

structure TS where
  t : Nat
  e : Nat
  k : List (Nat × Nat)
def tStep (o : IOp) (s : TS) : TS :=
  if o.c = 1 ∨ o.c = 2 ∨ o.c = 3 then s
  else if o.c = 4 then ⟨0, s.e + s.t, s.k⟩
  else if o.c = 5 then ⟨s.t, s.e, (s.t, 0) :: s.k⟩
  else if o.c = 6 then (match s.k with
    | (a, _) :: r => ⟨a, s.e, (a, s.t) :: r⟩
    | [] => s)
  else (match s.k with
    | (_, b) :: r => ⟨s.t + b, s.e, r⟩
    | [] => s)
def tGo : List IOp → TS → TS
  | [], s => s
  | o :: r, s => tGo r (tStep o s)
def tOf (s : MS) : TS := ⟨s.cur.tot, s.et, s.stk.map fun fr => (fr.e.tot, fr.t.tot)⟩
theorem tOf_step (o : IOp) (i : Nat) (s : MS) : tOf (mStep o i s) = tStep o (tOf s) := by
  obtain ⟨cur, et, ec, f, stk⟩ := s
  unfold mStep tStep
  split
  · rfl
  · split
    · rfl
    · split
      · rfl
      · split
        · cases stk <;> rfl
        · cases stk <;> rfl
theorem tOf_go : ∀ (l : List IOp) (i : Nat) (s : MS), tOf (mGo l i s) = tGo l (tOf s)
  | [], _, _ => rfl
  | o :: r, i, s => by rw [mGo, tGo, tOf_go r (i + 1), tOf_step]
theorem tGo_at {L : List IOp} {k : Nat} {o : IOp} (ho : L[k]? = some o) (s : TS) : tGo (L.drop k) s = tGo (L.drop (k + 1)) (tStep o s) := by
  rw [drop_cons ho, tGo]
/-- what a block from i to j does to the totals -/
def CB (L : List IOp) (i g d j : Nat) : Prop := ∀ a e k, tGo (L.drop i) ⟨a, e, k⟩ = tGo (L.drop j) ⟨a * g, e + a * d, k⟩
theorem count_paths {L : List IOp} {g d : Nat} (hwf : firstBad L < 0) (h : CB L 0 g d L.length) : (analyzeR L).paths = sg (g + d) := by
  have h1 := h 1 0 []
  simp only [List.drop_zero, List.drop_length, tGo, Nat.one_mul, Nat.zero_add] at h1
  have h2 := tOf_go L 0 ms0
  rw [show tOf ms0 = ⟨1, 0, []⟩ from rfl, h1] at h2
  have ht : (mGo L 0 ms0).cur.tot = g := congrArg TS.t h2
  have he : (mGo L 0 ms0).et = d := congrArg TS.e h2
  unfold analyzeR
  rw [if_neg (by omega)]
  unfold mRep
  rw [ht, he]
  cases lks (mGo L 0 ms0).cur.cnt L.length (mGo L 0 ms0).f 256 with
  | none => simp only [repOf]; rw [Nat.add_comm]; rfl
  | some y => simp only [repOf]; rw [Nat.add_comm]; rfl

/-! ### the chain -/
def ind (q v : Nat) : Nat → Nat := fun m => if m = q then v else 0
theorem nxt_ind {o : IOp} {q q' v : Nat} (hs : stepM o q = .inl q') (hq : q < 256) : nxt o (ind q v) 256 = ind q' v := by
  funext m
  by_cases hm : m = q'
  · subst hm; rw [nxt_one hs 256 hq]; simp [ind]
  · rw [nxt_zero 256 (fun p hp hs' => ?_)]
    · simp [ind, hm]
    · by_cases hp0 : p = q
      · subst hp0; rw [hs] at hs'; cases hs'; exact absurd rfl hm
      · simp [ind, hp0]
theorem flt_ind {o : IOp} {q q' v i : Nat} {f : Fl} (hs : stepM o q = .inl q') : ∀ K, flt o (ind q v) i f K = f
  | 0 => rfl
  | K + 1 => by
    rw [flt, flt_ind hs K]
    by_cases hK : K = q
    · subst hK; rw [hs]; simp
    · have : ind q v K = 0 := by simp [ind, hK]
      rw [if_pos this]
def chainB (h : Nat) : List IOp := [⟨5, 0, 0⟩, ⟨1, (h : Int), 0⟩, ⟨6, 0, 0⟩, ⟨1, (h : Int), 0⟩, ⟨7, 0, 0⟩, ⟨2, (h : Int), 0⟩]
def chainL : Nat → List IOp
  | 0 => []
  | k + 1 => chainL k ++ chainB (k % 8)
theorem chainL_len : ∀ k, (chainL k).length = 6 * k
  | 0 => rfl
  | k + 1 => by rw [chainL, List.length_append, chainL_len k]; simp [chainB]; omega
theorem mGo_app : ∀ (l l' : List IOp) (i : Nat) (s : MS), mGo (l ++ l') i s = mGo l' (i + l.length) (mGo l i s)
  | [], l', i, s => by simp [mGo]
  | o :: r, l', i, s => by
    rw [List.cons_append, mGo, mGo, mGo_app r l' (i + 1), List.length_cons]
    congr 1; omega
theorem chainB_go (h : Nat) (hh : h < 8) (i N T et ec : Nat) (f : Fl) (stk : List Fr) : mGo (chainB h) i ⟨⟨ind 0 N, T⟩, et, ec, f, stk⟩ = ⟨⟨ind 0 (N + N), T + T⟩, et, ec, f, stk⟩ := by
  have hp := pow_lt8 hh
  have s1 : stepM ⟨1, (h : Int), 0⟩ 0 = .inl (2 ^ h) := by simp [stepM]
  have s2 : stepM ⟨2, (h : Int), 0⟩ (2 ^ h) = .inl 0 := by simp [stepM]
  have hsum : (fun m => ind (2 ^ h) N m + ind (2 ^ h) N m) = ind (2 ^ h) (N + N) := by
    funext m; by_cases hm : m = 2 ^ h <;> simp [ind, hm]
  simp [chainB, mGo, mStep, nxt_ind s1, flt_ind s1, hsum, nxt_ind s2 hp, flt_ind s2]
theorem chainL_go : ∀ k, ∃ N T, 0 < N ∧ mGo (chainL k) 0 ms0 = ⟨⟨ind 0 N, T⟩, 0, 0, none, []⟩
  | 0 => ⟨1, 1, by omega, rfl⟩
  | k + 1 => by
    obtain ⟨N, T, hN, h⟩ := chainL_go k
    refine ⟨N + N, T + T, by omega, ?_⟩
    rw [chainL, mGo_app, h]
    exact chainB_go (k % 8) (Nat.mod_lt _ (by omega)) _ N T 0 0 none []
def fbRun : List IOp → List Bool → Option (List Bool)
  | [], st => some st
  | o :: r, st => match fbStep o st with
    | some st' => fbRun r st'
    | none => none
theorem fbGo_run : ∀ (l l' : List IOp) (st st' : List Bool) (i : Nat), fbRun l st = some st' → fbGo (l ++ l') st i = fbGo l' st' (i + l.length)
  | [], l', st, st', i, h => by cases h; simp
  | o :: r, l', st, st', i, h => by
    rw [fbRun] at h
    rw [List.cons_append, fbGo]
    cases hs : fbStep o st with
    | none => rw [hs] at h; cases h
    | some st1 =>
      rw [hs] at h
      simp only at h ⊢
      rw [fbGo_run r l' st1 st' (i + 1) h, List.length_cons]
      congr 1; omega
theorem okH_lt8 {h : Nat} (hh : h < 8) : okH (h : Int) = true := by
  unfold okH
  simp; omega
theorem chainB_run (h : Nat) (hh : h < 8) : fbRun (chainB h) [] = some [] := by
  have hok := okH_lt8 hh
  simp [chainB, fbRun, fbStep, hok]
theorem fbRun_app : ∀ (l l' : List IOp) (st st' : List Bool), fbRun l st = some st' → fbRun (l ++ l') st = fbRun l' st'
  | [], l', st, st', h => by cases h; rfl
  | o :: r, l', st, st', h => by
    rw [fbRun] at h
    rw [List.cons_append, fbRun]
    cases hs : fbStep o st with
    | none => rw [hs] at h; cases h
    | some st1 => rw [hs] at h; exact fbRun_app r l' st1 st' h
theorem chainL_run : ∀ k, fbRun (chainL k) [] = some []
  | 0 => rfl
  | k + 1 => by rw [chainL, fbRun_app _ _ _ _ (chainL_run k)]; exact chainB_run _ (Nat.mod_lt _ (by omega))
theorem chain_wf (k : Nat) : firstBad (chainL k) < 0 := by
  have := fbGo_run (chainL k) [] [] [] 0 (chainL_run k)
  rw [List.append_nil] at this
  unfold firstBad
  rw [this]; simp [fbGo]
theorem chainT_wf (k : Nat) : firstBad (chainL k ++ [⟨2, 0, 0⟩]) < 0 := by
  unfold firstBad
  rw [fbGo_run (chainL k) [⟨2, 0, 0⟩] [] [] 0 (chainL_run k)]
  have hs : fbStep ⟨2, 0, 0⟩ [] = some [] := by simp [fbStep, okH]
  rw [fbGo, hs]
  simp [fbGo]
theorem analyze_chain (k : Nat) : ∃ P : Nat, analyzeR (chainL k) = ⟨true, 0, -1, -1, P, P⟩ ∧ analyzeR (chainL k ++ [⟨2, 0, 0⟩]) = ⟨false, 1, ((6 * k : Nat) : Int), 0, P, 0⟩ := by
  obtain ⟨N, T, hN, h⟩ := chainL_go k
  refine ⟨sgN T, ?_, ?_⟩
  · have hwf := chain_wf k
    unfold analyzeR
    rw [if_neg (by omega), h]
    unfold mRep
    have hl : lks (ind 0 N) (chainL k).length none 256 = none := by
      rw [lks_none]
      exact ⟨rfl, fun p hp _ => by simp [ind]; omega⟩
    simp only [hl, repOf, Nat.zero_add]
  · have hwf := chainT_wf k
    unfold analyzeR
    rw [if_neg (by omega), mGo_app, h]
    have hst : stepM ⟨2, 0, 0⟩ 0 = .inr (1, 0) := by simp [stepM]
    have hn : nxt ⟨2, 0, 0⟩ (ind 0 N) 256 = fun _ => 0 := by
      funext m
      rw [nxt_zero 256 (fun p hp hs => ?_)]
      by_cases hp0 : p = 0
      · subst hp0; rw [hst] at hs; cases hs
      · simp [ind, hp0]
    have hfl : ∀ K, flt ⟨2, 0, 0⟩ (ind 0 N) (0 + (chainL k).length) none (K + 1) = some (0 + (chainL k).length, 1, 0) := by
      intro K
      induction K with
      | zero =>
        have hne : ¬ ind 0 N 0 = 0 := by simp [ind]; omega
        rw [flt, if_neg hne, hst]; rfl
      | succ K ih =>
        have h0 : ind 0 N (K + 1) = 0 := by simp [ind]
        rw [flt, if_pos h0, ih]
    have hlk : lks (fun _ => 0) (chainL k ++ [(⟨2, 0, 0⟩ : IOp)]).length (some (0 + (chainL k).length, 1, 0)) 256 = some (0 + (chainL k).length, 1, 0) := by
      have : ∀ K, lks (fun _ => 0) (chainL k ++ [(⟨2, 0, 0⟩ : IOp)]).length (some (0 + (chainL k).length, 1, 0)) K = some (0 + (chainL k).length, 1, 0) := by
        intro K
        induction K with
        | zero => rfl
        | succ K ih => rw [lks, if_neg (by omega), ih]
      exact this 256
    have hm : mGo [⟨2, 0, 0⟩] (0 + (chainL k).length) ⟨⟨ind 0 N, T⟩, 0, 0, none, []⟩ = ⟨⟨fun _ => 0, T⟩, 0, 0, some (0 + (chainL k).length, 1, 0), []⟩ := by
      rw [mGo, mGo]
      simp only [mStep]
      rw [if_pos (by simp), hn, hfl 255]
    rw [hm]
    unfold mRep
    simp only [hlk, repOf]
    rw [chainL_len]
    simp [sgN]
end Go.Proofs.Yahagw
