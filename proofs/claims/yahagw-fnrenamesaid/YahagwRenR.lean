/-
  The report of a program with renamed handles.
-/
import Derived.Test.YahagwRenQ
set_option linter.unusedVariables false
set_option linter.unusedSimpArgs false
namespace Go.Proofs.Yahagw

theorem good_step {L : List IOp} {o : IOp} {i : Nat} (ho : L[i]? = some o) (hA : okH o.a = true) (hB : o.c = 3 → okH o.b = true) (hc : o.c = 1 ∨ o.c = 2 ∨ o.c = 3) {p kd hd : Nat} (hs : stepM o p = .inr (kd, hd)) : Good L (i, kd, hd) := by
  obtain ⟨a, ha, ha8⟩ := okH_nat hA
  have hta : o.a.toNat = a := by rw [ha]; simp
  unfold stepM at hs
  rcases hc with hc | hc | hc
  · rw [if_pos hc] at hs
    split at hs
    · cases hs; exact ⟨by simp only; omega, .inr ⟨o, ho, .inr (.inl ⟨rfl, .inl ⟨hc, by rw [hta]; exact ha⟩⟩)⟩⟩
    · cases hs
  · rw [if_neg (by omega), if_pos hc] at hs
    split at hs
    · cases hs
    · cases hs; exact ⟨by simp only; omega, .inr ⟨o, ho, .inl ⟨rfl, .inl hc, by rw [hta]; exact ha⟩⟩⟩
  · obtain ⟨b, hb, hb8⟩ := okH_nat (hB hc)
    have htb : o.b.toNat = b := by rw [hb]; simp
    rw [if_neg (by omega), if_neg (by omega)] at hs
    split at hs
    · split at hs
      · cases hs; exact ⟨by simp only; omega, .inr ⟨o, ho, .inr (.inl ⟨rfl, .inr ⟨hc, by rw [htb]; exact hb⟩⟩)⟩⟩
      · cases hs
    · cases hs; exact ⟨by simp only; omega, .inr ⟨o, ho, .inl ⟨rfl, .inr hc, by rw [hta]; exact ha⟩⟩⟩

theorem FR.get {pm : Nat → Nat} {f f' : Fl} (h : FR pm f f') {x : Nat × Nat × Nat} (hx : f = some x) : ∃ x', f' = some x' ∧ XR pm x x' := by
  rcases h with ⟨h1, _⟩ | ⟨y, y', h1, h2, h3⟩
  · rw [h1] at hx; cases hx
  · rw [h1] at hx; cases hx; exact ⟨y', h2, h3⟩
theorem FR.get' {pm : Nat → Nat} {f f' : Fl} (h : FR pm f f') {x' : Nat × Nat × Nat} (hx : f' = some x') : ∃ x, f = some x ∧ XR pm x x' := by
  rcases h with ⟨_, h1⟩ | ⟨y, y', h1, h2, h3⟩
  · rw [h1] at hx; cases hx
  · rw [h2] at hx; cases hx; exact ⟨y, h1, h3⟩

theorem flt_ren {pm : Nat → Nat} (hp : Pm pm) {L : List IOp} {o : IOp} {i : Nat} (ho : L[i]? = some o) (hA : okH o.a = true) (hB : o.c = 3 → okH o.b = true) (hc : o.c = 1 ∨ o.c = 2 ∨ o.c = 3)
    {c c' : Nat → Nat} (h : CR pm c c') {f f' : Fl} (hf : FR pm f f') (hg : GoodF L f) : FR pm (flt o c i f 256) (flt (rop pm o) c' i f' 256) := by
  refine least_ren (L := L) (flt_least o c i f 256) (flt_least (rop pm o) c' i f' 256) ?_ ?_ ?_
  · rintro x (hx | ⟨p, k, hh, h1, h2, h3, rfl⟩)
    · exact hg x hx
    · exact good_step ho hA hB hc h3
  · rintro x (hx | ⟨p, k, hh, h1, h2, h3, rfl⟩)
    · obtain ⟨x', hx', hr⟩ := hf.get hx
      exact ⟨x', .inl hx', hr.1, hr.2.1⟩
    · have hs := step_ren hp hA hB hc p
      rw [h3] at hs
      exact ⟨(i, k, pm hh), .inr ⟨rm pm p, k, pm hh, rm_lt hp p, by rw [h p h1]; exact h2, hs, rfl⟩, rfl, rfl⟩
  · rintro x' (hx | ⟨p', k, hh, h1, h2, h3, rfl⟩)
    · obtain ⟨x, hx', hr⟩ := hf.get' hx
      exact ⟨x, .inl hx', hr⟩
    · obtain ⟨p, hp256, rfl⟩ := rm_surj hp p' h1
      have hs := step_ren hp hA hB hc p
      rw [h3] at hs
      cases hsp : stepM o p with
      | inl q => rw [hsp] at hs; cases hs
      | inr y =>
        obtain ⟨k2, h2'⟩ := y
        rw [hsp] at hs
        simp only [Sum.inr.injEq, Prod.mk.injEq] at hs
        obtain ⟨rfl, rfl⟩ := hs
        exact ⟨(i, k, h2'), .inr ⟨p, k, h2', hp256, by rw [← h p hp256]; exact h2, hsp, rfl⟩, rfl, rfl, fun _ => rfl⟩
theorem lks_ren {pm : Nat → Nat} (hp : Pm pm) {L : List IOp} {i : Nat} (hi : i = L.length ∨ ∃ o, L[i]? = some o ∧ o.c = 4)
    {c c' : Nat → Nat} (h : CR pm c c') {f f' : Fl} (hf : FR pm f f') (hg : GoodF L f) : FR pm (lks c i f 256) (lks c' i f' 256) := by
  refine least_ren (L := L) (lks_least c i f 256) (lks_least c' i f' 256) ?_ ?_ ?_
  · rintro x (hx | ⟨p, h1, h2, h3, rfl⟩)
    · exact hg x hx
    · refine ⟨lowB_lt _, ?_⟩
      rcases hi with hi | ⟨o, ho, hc⟩
      · exact .inl ⟨hi, rfl⟩
      · exact .inr ⟨o, ho, .inr (.inr ⟨rfl, hc⟩)⟩
  · rintro x (hx | ⟨p, h1, h2, h3, rfl⟩)
    · obtain ⟨x', hx', hr⟩ := hf.get hx
      exact ⟨x', .inl hx', hr.1, hr.2.1⟩
    · refine ⟨(i, 3, lowB (rm pm p)), .inr ⟨rm pm p, ?_, rm_lt hp p, by rw [h p h2]; exact h3, rfl⟩, rfl, rfl⟩
      apply Nat.pos_of_ne_zero
      intro h0
      have := rm_inj hp h2 (by omega) (h0.trans (rm_zero hp).symm)
      omega
  · rintro x' (hx | ⟨p', h1, h2, h3, rfl⟩)
    · obtain ⟨x, hx', hr⟩ := hf.get' hx
      exact ⟨x, .inl hx', hr⟩
    · obtain ⟨p, hp256, rfl⟩ := rm_surj hp p' h2
      refine ⟨(i, 3, lowB p), .inr ⟨p, ?_, hp256, by rw [← h p hp256]; exact h3, rfl⟩, rfl, rfl, fun hk => ?_⟩
      · apply Nat.pos_of_ne_zero
        intro h0
        subst h0
        rw [rm_zero hp] at h1
        omega
      · simp only at hk; omega

structure SR (pm : Nat → Nat) (x x' : St) : Prop where
  cnt : CR pm x.cnt x'.cnt
  tot : x'.tot = x.tot
def StkR (pm : Nat → Nat) : List Fr → List Fr → Prop
  | [], [] => True
  | a :: r, b :: r' => SR pm a.e b.e ∧ SR pm a.t b.t ∧ StkR pm r r'
  | _, _ => False
structure MR (pm : Nat → Nat) (s s' : MS) : Prop where
  cur : SR pm s.cur s'.cur
  et : s'.et = s.et
  ec : s'.ec = s.ec
  f : FR pm s.f s'.f
  stk : StkR pm s.stk s'.stk
theorem sr0 (pm : Nat → Nat) : SR pm st0 st0 := ⟨fun _ _ => rfl, rfl⟩
theorem SR.cnt0 {pm : Nat → Nat} (hp : Pm pm) {x x' : St} (h : SR pm x x') : x'.cnt 0 = x.cnt 0 := by
  have := h.cnt 0 (by omega)
  rwa [rm_zero hp] at this
theorem mr0 {pm : Nat → Nat} (hp : Pm pm) : MR pm ms0 ms0 := by
  refine ⟨⟨?_, rfl⟩, rfl, rfl, .inl ⟨rfl, rfl⟩, trivial⟩
  intro m hm
  show (if rm pm m = 0 then 1 else 0) = if m = 0 then 1 else 0
  by_cases h : m = 0
  · subst h; rw [rm_zero hp]
  · have : ¬ rm pm m = 0 := fun h0 => h (rm_inj hp hm (by omega) (h0.trans (rm_zero hp).symm))
    rw [if_neg h, if_neg this]

theorem mStep_ren {pm : Nat → Nat} (hp : Pm pm) {L : List IOp} {o : IOp} {i : Nat} (ho : L[i]? = some o) {st st' : List Bool} (hs : fbStep o st = some st')
    {s s' : MS} (hg : GoodF L s.f) (h : MR pm s s') : MR pm (mStep o i s) (mStep (rop pm o) i s') ∧ GoodF L (mStep o i s).f := by
  obtain ⟨cur, et, ec, f, stk⟩ := s
  obtain ⟨cur', et', ec', f', stk'⟩ := s'
  obtain ⟨h1, h2, h3, h4, h5⟩ := h
  simp only at h1 h2 h3 h4 h5 hg
  subst h2 h3
  have hcc := fb_code hs
  have hrc := rop_c pm o
  by_cases h123 : o.c = 1 ∨ o.c = 2 ∨ o.c = 3
  · obtain ⟨hA, hB⟩ := fb_okH hs h123
    have h123' : (rop pm o).c = 1 ∨ (rop pm o).c = 2 ∨ (rop pm o).c = 3 := by rw [hrc]; exact h123
    unfold mStep
    rw [if_pos h123, if_pos h123']
    exact ⟨⟨⟨nxt_ren hp hA hB h123 h1.cnt, h1.tot⟩, rfl, rfl, flt_ren hp ho hA hB h123 h1.cnt h4 hg, h5⟩, good_flt ho hA hB h123 hg 256⟩
  · have h123' : ¬ ((rop pm o).c = 1 ∨ (rop pm o).c = 2 ∨ (rop pm o).c = 3) := by rw [hrc]; exact h123
    unfold mStep
    rw [if_neg h123, if_neg h123', hrc]
    by_cases h4c : o.c = 4
    · rw [if_pos h4c, if_pos h4c]
      refine ⟨⟨sr0 pm, ?_, ?_, lks_ren hp (.inr ⟨o, ho, h4c⟩) h1.cnt h4 hg, h5⟩, good_lks (.inr ⟨o, ho, h4c⟩) hg 256⟩
      · simp only; rw [h1.tot]
      · simp only; rw [h1.cnt0 hp]
    · rw [if_neg h4c, if_neg h4c]
      by_cases h5c : o.c = 5
      · rw [if_pos h5c, if_pos h5c]
        exact ⟨⟨h1, rfl, rfl, h4, h1, sr0 pm, h5⟩, hg⟩
      · rw [if_neg h5c, if_neg h5c]
        by_cases h6c : o.c = 6
        · rw [if_pos h6c, if_pos h6c]
          cases stk with
          | nil =>
            cases stk' with
            | nil => exact ⟨⟨h1, rfl, rfl, h4, h5⟩, hg⟩
            | cons b r => exact h5.elim
          | cons a r =>
            cases stk' with
            | nil => exact h5.elim
            | cons b r' =>
              obtain ⟨h6, h7, h8⟩ := h5
              exact ⟨⟨h6, rfl, rfl, h4, h6, h1, h8⟩, hg⟩
        · rw [if_neg h6c, if_neg h6c]
          cases stk with
          | nil =>
            cases stk' with
            | nil => exact ⟨⟨h1, rfl, rfl, h4, h5⟩, hg⟩
            | cons b r => exact h5.elim
          | cons a r =>
            cases stk' with
            | nil => exact h5.elim
            | cons b r' =>
              obtain ⟨h6, h7, h8⟩ := h5
              refine ⟨⟨⟨fun m hm => ?_, ?_⟩, rfl, rfl, h4, h8⟩, hg⟩
              · simp only; rw [h1.cnt m hm, h7.cnt m hm]
              · simp only; rw [h1.tot, h7.tot]
theorem mGo_ren {pm : Nat → Nat} (hp : Pm pm) {L : List IOp} : ∀ (l : List IOp) (i : Nat) (s s' : MS) (st : List Bool), L.drop i = l → fbGo l st i = -1 → GoodF L s.f → MR pm s s' →
    MR pm (mGo l i s) (mGo (l.map (rop pm)) i s') ∧ GoodF L (mGo l i s).f
  | [], i, s, s', st, hl, hwf, hg, h => ⟨h, hg⟩
  | o :: r, i, s, s', st, hl, hwf, hg, h => by
    have ho : L[i]? = some o := by
      have : (L.drop i)[0]? = some o := by rw [hl]; rfl
      simpa using this
    have hr : L.drop (i + 1) = r := by rw [← List.drop_drop, hl]; rfl
    rw [← hl] at hwf
    obtain ⟨st', hs, hwf'⟩ := wf_step ho hwf
    rw [hr] at hwf'
    rw [List.map_cons, mGo, mGo]
    obtain ⟨h1, h2⟩ := mStep_ren hp ho hs hg h
    exact mGo_ren hp r (i + 1) _ _ st' hr hwf' h2 h1

structure RepRen (pm : Nat → Nat) (r s : Rep) : Prop where
  ok : s.ok = r.ok
  kind : s.kind = r.kind
  pos : s.pos = r.pos
  paths : s.paths = r.paths
  clean : s.clean = r.clean
  h12 : r.kind = 1 ∨ r.kind = 2 → ∃ h : Nat, h < 8 ∧ r.handle = (h : Int) ∧ s.handle = (pm h : Int)
  h04 : ¬ (r.kind = 1 ∨ r.kind = 2 ∨ r.kind = 3) → s.handle = r.handle
theorem analyze_ren {pm : Nat → Nat} (hp : Pm pm) (L : List IOp) : RepRen pm (analyzeR L) (analyzeR (L.map (rop pm))) := by
  have hfb : firstBad (L.map (rop pm)) = firstBad L := fbGo_ren hp L [] 0
  by_cases hwf : firstBad L < 0
  · have hwf1 : fbGo L [] 0 = -1 := fbGo_neg L [] 0 hwf
    obtain ⟨h1, hg⟩ := mGo_ren hp (L := L) L 0 ms0 ms0 [] (by simp) hwf1 (by intro x hx; cases hx) (mr0 hp)
    unfold analyzeR
    rw [hfb, if_neg (by omega), if_neg (by omega), List.length_map]
    unfold mRep
    have hfr := lks_ren hp (L := L) (.inl rfl) h1.cur.cnt h1.f hg
    have hgl := good_lks (L := L) (c := (mGo L 0 ms0).cur.cnt) (.inl rfl) hg 256
    have e1 : (mGo (L.map (rop pm)) 0 ms0).et + (mGo (L.map (rop pm)) 0 ms0).cur.tot = (mGo L 0 ms0).et + (mGo L 0 ms0).cur.tot := by rw [h1.et, h1.cur.tot]
    have e2 : (mGo (L.map (rop pm)) 0 ms0).ec + (mGo (L.map (rop pm)) 0 ms0).cur.cnt 0 = (mGo L 0 ms0).ec + (mGo L 0 ms0).cur.cnt 0 := by rw [h1.ec, h1.cur.cnt0 hp]
    rw [e1, e2]
    rcases hfr with ⟨e3, e4⟩ | ⟨⟨p, k, h⟩, ⟨p', k', h'⟩, e3, e4, hx1, hx2, hx3⟩
    · rw [e3, e4]
      exact ⟨rfl, rfl, rfl, rfl, rfl, fun h => by simp [repOf] at h, fun _ => rfl⟩
    · rw [e3, e4]
      simp only at hx1 hx2 hx3
      subst hx1 hx2
      have hgood := hgl _ e3
      have hk := good_kind hgood
      refine ⟨rfl, rfl, rfl, rfl, rfl, fun hk2 => ?_, fun hk2 => ?_⟩
      · simp only [repOf] at hk2 ⊢
        exact ⟨h, hgood.1, rfl, by rw [hx3 (by omega)]⟩
      · simp only [repOf] at hk2
        omega
  · rw [analyze_bad L hwf, analyze_bad _ (by rw [hfb]; exact hwf), hfb]
    exact ⟨rfl, rfl, rfl, rfl, rfl, fun h => by simp at h, fun _ => rfl⟩
end Go.Proofs.Yahagw
