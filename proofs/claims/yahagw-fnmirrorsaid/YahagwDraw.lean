/-
  A region that leaves its order open: if in the order of the text it comes to the frame A, and each operation gives in whatever fitting world what A says, then it comes to A in every order.
-/
import Derived.Test.YahagwBase
import Derived.Orders
set_option linter.unusedSimpArgs false
set_option linter.unusedVariables false
namespace Go.Proofs.Yahagw
open Go.RowKit

theorem CN.some {P : Program} {f : FuncId} {args : Array Value} {w : World} {R : Value → World → Prop} (h : CN P f args w R) : ∃ v w', R v w' := by
  obtain ⟨e, w', fr, ⟨v, _, hv⟩, _⟩ := h.out []
  exact ⟨v, w', hv⟩

def dsts (l : List Oper) : List Nat := l.filterMap (·.dst)

theorem wpN_some {P : Program} {ops : Array Oper} {K : Act → World → Prop} : ∀ (l : List Oper) (a : Act) (w : World), wpN P ops K l a w →
    ∃ A w', K A w' ∧ A.tmps.size = a.tmps.size ∧ A.defers = a.defers ∧ ∀ t, t ∉ dsts l → A.eval (.tmp t) = a.eval (.tmp t)
  | [], a, w, h => ⟨a, w, h, rfl, rfl, fun _ _ => rfl⟩
  | o :: rest, a, w, h => by
    have key : ∀ (v : Value) (w1 : World), wpN P ops K rest (a.put o.dst v) w1 →
        ∃ A w', K A w' ∧ A.tmps.size = a.tmps.size ∧ A.defers = a.defers ∧ ∀ t, t ∉ dsts (o :: rest) → A.eval (.tmp t) = a.eval (.tmp t) := by
      intro v w1 h1
      obtain ⟨A, w', hK, hs, hd, hf⟩ := wpN_some rest _ w1 h1
      refine ⟨A, w', hK, by rw [hs, sz_put], by rw [hd, df_put], fun t ht => ?_⟩
      have ht2 : t ∉ dsts rest := by
        intro hm; apply ht; unfold dsts at *
        simp only [List.mem_filterMap, List.mem_cons] at *
        obtain ⟨x, hx, hx2⟩ := hm
        exact ⟨x, .inr hx, hx2⟩
      rw [hf t ht2]
      cases hod : o.dst with
      | none => rfl
      | some d =>
        refine ev_put_ne a d t v ?_
        simp only [beq_eq_false_iff_ne]
        intro hdt; subst hdt; apply ht
        unfold dsts
        simp only [List.mem_filterMap, List.mem_cons]
        exact ⟨o, .inl rfl, hod⟩
    unfold wpN at h
    split at h
    · unfold runN at h
      split at h
      · exact key _ _ h
      · exact key _ _ h
      · obtain ⟨v, w1, h1⟩ := h.some
        exact key _ _ h1
      · exact h.elim
    · exact key _ _ h

def opTmps (o : Oper) : List Nat := o.op.operands.toList.filterMap fun | .tmp t => some t | _ => none
def slotOK (l : List Oper) (o : Oper) (t : Nat) : Bool := (o.after.toList.any fun e => Region.binds .any e && nthDst l e.on == some t) || !(dsts l).contains t
def guardOK (l : List Oper) (o : Oper) : Bool := match o.guard with
  | none => true
  | some (j, _) => (o.after.toList.any fun e => Region.binds .any e && e.on == j) && (nthDst l j).isSome
def noSel (o : Oper) : Bool := match o.op with | .select _ _ => false | _ => true
def noDup : List Nat → Bool
  | [] => true
  | x :: l => !l.contains x && noDup l
def drawOK (l : List Oper) : Bool := noDup (dsts l) && l.all fun o => (opTmps o).all (slotOK l o) && guardOK l o && noSel o
/-- whoever lists i has listed j -/
def reach (l : List Oper) : Nat → Nat → Nat → Bool
  | 0, i, j => i == j
  | f + 1, i, j => i == j || (match l[i]? with
    | some q => q.after.toList.any fun e => Region.binds .any e && reach l f e.on j
    | none => false)
theorem reach_spec {l : List Oper} {T : Nat → Prop} (hcl : ∀ i o, l[i]? = some o → T i → ∀ e ∈ o.after, Region.binds .any e = true → T e.on) : ∀ f i j, T i → reach l f i j = true → T j
  | 0, i, j, hi, h => by simp only [reach, beq_iff_eq] at h; rw [← h]; exact hi
  | f + 1, i, j, hi, h => by
    unfold reach at h
    simp only [Bool.or_eq_true, beq_iff_eq] at h
    rcases h with h | h
    · rw [← h]; exact hi
    · cases hq : l[i]? with
      | none => rw [hq] at h; cases h
      | some q =>
        rw [hq] at h
        simp only [List.any_eq_true, Bool.and_eq_true] at h
        obtain ⟨e, he, hb, hr⟩ := h
        exact reach_spec hcl f e.on j (hcl i q hq hi e (by simpa using he) hb) hr
/-- the last operation waits for all others, straight or over some between -/
def lastOK (l : List Oper) (n : Nat) (o : Oper) : Bool := (List.range n).all fun j => o.after.toList.any fun e => Region.binds .any e && reach l 3 e.on j

def agree (d : Option Nat) (a A : Act) : Prop := match d with | some d => a.eval (.tmp d) = A.eval (.tmp d) | none => True
theorem agree_some (d : Nat) (a A : Act) : agree (some d) a A = (a.eval (.tmp d) = A.eval (.tmp d)) := rfl
theorem agree_none (a A : Act) : agree none a A = True := rfl
def obs (P : Program) (ops : Array Oper) (A : Act) (S : World → Prop) : List Oper → World → Prop
  | [], _ => True
  | o :: rest, w => wpN P ops (fun a' w' => agree o.dst a' A ∧ S w') [o] A w ∧ obs P ops A S rest w
theorem obs_mem {P : Program} {ops : Array Oper} {A : Act} {S : World → Prop} {w : World} : ∀ {l : List Oper}, obs P ops A S l w → ∀ o ∈ l, wpN P ops (fun a' w' => agree o.dst a' A ∧ S w') [o] A w
  | [], _, o', ho => by cases ho
  | o :: rest, h, o', ho => by
    simp only [List.mem_cons] at ho
    rcases ho with rfl | ho
    · exact h.1
    · exact obs_mem h.2 o' ho

theorem eval_ext {a A : Act} (hs : a.tmps.size = A.tmps.size) (hd : a.defers = A.defers) (h : ∀ t, a.eval (.tmp t) = A.eval (.tmp t)) : a = A := by
  obtain ⟨x, d⟩ := a
  obtain ⟨y, d'⟩ := A
  simp only at hs hd
  subst hd
  congr 1
  apply Array.ext hs
  intro i h1 h2
  have := h i
  simp only [Act.eval, Array.getD_eq_getD_getElem?, Array.getElem?_eq_getElem h1, Array.getElem?_eq_getElem h2, Option.getD_some] at this
  exact this

theorem noDup_spec : ∀ {l : List Oper}, noDup (dsts l) = true → ∀ (i j : Nat) (o o' : Oper) (d : Nat), l[i]? = some o → l[j]? = some o' → o.dst = some d → o'.dst = some d → i = j
  | [], _, i, j, o, o', d, h, _, _, _ => by simp at h
  | x :: l, hn, i, j, o, o', d, hi, hj, ho, ho' => by
    have hn2 : noDup (dsts l) = true := by
      cases hx : x.dst with
      | none => simp only [dsts, List.filterMap_cons, hx] at hn; exact hn
      | some q => simp only [dsts, List.filterMap_cons, hx, noDup, Bool.and_eq_true] at hn; exact hn.2
    have hout : ∀ q, x.dst = some q → ∀ (k : Nat) (y : Oper), l[k]? = some y → y.dst ≠ some q := by
      intro q hx k y hk hy
      simp only [dsts, List.filterMap_cons, hx, noDup, Bool.and_eq_true, Bool.not_eq_true'] at hn
      have : q ∈ List.filterMap (fun (x : Oper) => x.dst) l := List.mem_filterMap.2 ⟨y, List.mem_of_getElem? hk, hy⟩
      have h1 := hn.1
      rw [List.contains_eq_mem] at h1
      simp [this] at h1
    cases i with
    | zero =>
      cases j with
      | zero => rfl
      | succ j =>
        simp at hi hj
        subst hi
        exact absurd ho' (hout d ho j o' hj)
    | succ i =>
      cases j with
      | zero =>
        simp at hi hj
        subst hj
        exact absurd ho (hout d ho' i o hi)
      | succ j =>
        simp at hi hj
        rw [noDup_spec hn2 i j o o' d hi hj ho ho']

section
variable {P : Program} {l : List Oper} {a A : Act}

/-- what is known in the midst of such a region -/
structure Mid (l : List Oper) (a A x : Act) (listed : Array Bool) : Prop where
  size : x.tmps.size = A.tmps.size
  defers : x.defers = A.defers
  done : ∀ i o d, l[i]? = some o → o.dst = some d → listed.getD i false = true → x.eval (.tmp d) = A.eval (.tmp d)
  rest : ∀ t, t ∉ dsts l → x.eval (.tmp t) = A.eval (.tmp t)
  lsize : listed.size = l.length

theorem nthDst_some {l : List Oper} {j t : Nat} (h : nthDst l j = some t) : ∃ o, l[j]? = some o ∧ o.dst = some t := by
  rw [← nthDst_eq] at h
  cases ho : l[j]? with
  | none => rw [ho] at h; simp at h
  | some o => rw [ho] at h; exact ⟨o, rfl, by simpa using h⟩

theorem Mid.slot {x : Act} {listed : Array Bool} (hm : Mid l a A x listed) {o : Oper} {t : Nat} (hs : slotOK l o t = true)
    (hr : ∀ e ∈ o.after, Region.binds .any e = true → listed.getD e.on false = true) : x.eval (.tmp t) = A.eval (.tmp t) := by
  unfold slotOK at hs
  simp only [Bool.or_eq_true, List.any_eq_true, Bool.and_eq_true, beq_iff_eq, Bool.not_eq_true'] at hs
  rcases hs with ⟨e, he, hb, hn⟩ | hs
  · obtain ⟨o', ho', hd⟩ := nthDst_some hn
    exact hm.done e.on o' t ho' hd (hr e (by simpa using he) hb)
  · exact hm.rest t (by rw [List.contains_eq_mem] at hs; simpa using hs)

theorem Mid.step {x : Act} {listed : Array Bool} (hm : Mid l a A x listed) (hnd : noDup (dsts l) = true) {i : Nat} {o : Oper} (ho : l[i]? = some o) {v : Value}
    (hv : agree o.dst (A.put o.dst v) A) : Mid l a A (x.put o.dst v) (listed.setIfInBounds i true) := by
  refine ⟨by rw [sz_put]; exact hm.size, by rw [df_put]; exact hm.defers, ?_, ?_, by simp [hm.lsize]⟩
  · intro j o' d hj hd hl
    by_cases hij : i = j
    · subst hij
      rw [ho] at hj; cases hj
      rw [hd] at hv ⊢
      simp only [agree] at hv
      by_cases hlt : d < A.tmps.size
      · rw [ev_put_same _ _ _ (by rw [hm.size]; exact hlt)]
        rw [ev_put_same _ _ _ hlt] at hv
        exact hv
      · have e1 : x.eval (.tmp d) = undef := by simp [Act.eval, Array.getElem?_eq_none (show x.tmps.size ≤ d by rw [hm.size]; exact Nat.le_of_not_lt hlt)]
        have e2 : A.eval (.tmp d) = undef := by simp [Act.eval, Array.getElem?_eq_none (Nat.le_of_not_lt hlt)]
        have e3 : (x.put (some d) v).eval (.tmp d) = undef := by
          simp only [Act.eval, Act.put, Array.getD_eq_getD_getElem?]
          simp [Array.getElem?_eq_none (show (x.tmps.setIfInBounds d v).size ≤ d by rw [Array.size_setIfInBounds, hm.size]; exact Nat.le_of_not_lt hlt)]
        rw [e2, e3]
    · rw [getD_set_ne _ hij] at hl
      have hx := hm.done j o' d hj hd hl
      cases hod : o.dst with
      | none => exact hx
      | some q =>
        rw [ev_put_ne _ _ _ _ ?_]
        · exact hx
        · simp only [beq_eq_false_iff_ne]
          intro hq; subst hq
          exact hij (noDup_spec hnd i j o o' q ho hj hod hd)
  · intro t ht
    cases hod : o.dst with
    | none => exact hm.rest t ht
    | some q =>
      rw [ev_put_ne _ _ _ _ ?_]
      · exact hm.rest t ht
      · simp only [beq_eq_false_iff_ne]
        intro hq; subst hq
        exact ht (List.mem_filterMap.2 ⟨o, List.mem_of_getElem? ho, hod⟩)

theorem drawOK_at (hchk : drawOK l = true) {i : Nat} {o : Oper} (ho : l[i]? = some o) : (∀ t ∈ opTmps o, slotOK l o t = true) ∧ guardOK l o = true ∧ ∀ cs b, o.op ≠ .select cs b := by
  unfold drawOK at hchk
  simp only [Bool.and_eq_true, List.all_eq_true] at hchk
  obtain ⟨⟨h1, h2⟩, h3⟩ := hchk.2 o (List.mem_of_getElem? ho)
  refine ⟨h1, h2, fun cs b he => ?_⟩
  unfold noSel at h3
  rw [he] at h3
  cases h3

/-- one operation, in the midst of such a region, does what it does at A -/
theorem Mid.run {x : Act} {listed : Array Bool} (hm : Mid l a A x listed) (hchk : drawOK l = true) {i : Nat} {o : Oper} (ho : l[i]? = some o)
    (hr : ∀ e ∈ o.after, Region.binds .any e = true → listed.getD e.on false = true) {S' : World → Prop} {w : World}
    (hob : wpN P l.toArray (fun a' w' => agree o.dst a' A ∧ S' w') [o] A w) {Q : Exit → Act → World → Prop} {K : Act → World → Prop}
    (hK : ∀ v w', agree o.dst (A.put o.dst v) A → S' w' → K (x.put o.dst v) w') : wpOp P l.toArray Q i K x w := by
  obtain ⟨hsl, hgd, hsel⟩ := drawOK_at hchk ho
  have hev : execOp x.eval o = execOp A.eval o := by
    refine execOp_congr o hsel ?_
    intro y hy
    cases y with
    | tmp t => exact hm.slot (hsl t (List.mem_filterMap.2 ⟨.tmp t, by simpa using hy, rfl⟩)) hr
    | const v => rfl
    | global g => rfl
    | func f => rfl
  have hwant : Region.wanted o (yielded l.toArray x.tmps) = Region.wanted o (yielded l.toArray A.tmps) := by
    unfold Region.wanted
    cases hg : o.guard with
    | none => rfl
    | some p =>
      obtain ⟨j, b⟩ := p
      simp only
      unfold guardOK at hgd
      rw [hg] at hgd
      simp only [Bool.and_eq_true, List.any_eq_true, beq_iff_eq, Option.isSome_iff_exists] at hgd
      obtain ⟨⟨e, he, hb, hej⟩, d, hd⟩ := hgd
      obtain ⟨o', ho', hdd⟩ := nthDst_some hd
      have hx := hm.done j o' d ho' hdd (by rw [← hej]; exact hr e (by simpa using he) hb)
      unfold yielded
      rw [List.getElem?_toArray, ho']
      simp only [Option.bind_some, hdd]
      have e1 : x.tmps[d]? = A.tmps[d]? := by
        simp only [Act.eval, Array.getD_eq_getD_getElem?] at hx
        by_cases hlt : d < A.tmps.size
        · have hlt2 : d < x.tmps.size := by rw [hm.size]; exact hlt
          rw [Array.getElem?_eq_getElem hlt, Array.getElem?_eq_getElem hlt2] at hx ⊢
          simpa using hx
        · rw [Array.getElem?_eq_none (show x.tmps.size ≤ d by rw [hm.size]; omega), Array.getElem?_eq_none (show A.tmps.size ≤ d by omega)]
      rw [e1]
  unfold wpOp
  rw [List.getElem?_toArray, ho]
  simp only [hwant]
  unfold wpN at hob
  split
  · rename_i hw
    rw [if_pos hw] at hob
    refine .inl ?_
    unfold runN at hob
    unfold Oper.wp
    rw [hev]
    split at hob
    · rename_i v w' hrun; rw [hrun]; exact hK _ _ hob.1 hob.2
    · rename_i w' hrun; rw [hrun]; exact hK _ _ hob.1 hob.2
    · rename_i f args w' hrun
      rw [hrun]
      refine Calls.mono hob.out ?_
      rintro e w'' ⟨v, rfl, hv⟩
      exact hK _ _ hv.1 hv.2
    · exact hob.elim
  · rename_i hw
    rw [if_neg hw] at hob
    exact hK _ _ hob.1 hob.2

theorem Mid.start (hA : A.tmps.size = a.tmps.size) (hd : A.defers = a.defers) (hf : ∀ t, t ∉ dsts l → A.eval (.tmp t) = a.eval (.tmp t)) : Mid l a A a (Array.replicate l.length false) := by
  refine ⟨hA.symm, hd.symm, ?_, fun t ht => (hf t ht).symm, by simp⟩
  intro i o d _ _ hl
  rw [Array.getD_eq_getD_getElem?] at hl
  by_cases h : i < l.length
  · simp [h] at hl
  · rw [Array.getElem?_eq_none (by simp; omega)] at hl; simp at hl

/-- when all are listed the frame is A -/
theorem Mid.fin {x : Act} {listed : Array Bool} (hm : Mid l a A x listed) (hall : ∀ i, i < l.length → listed.getD i false = true) : x = A := by
  refine eval_ext hm.size hm.defers fun t => ?_
  by_cases ht : t ∈ dsts l
  · obtain ⟨o, ho, hd⟩ := List.mem_filterMap.1 ht
    obtain ⟨i, hi, rfl⟩ := List.getElem_of_mem ho
    exact hm.done i _ t (List.getElem?_eq_getElem hi) hd (hall i hi)
  · exact hm.rest t ht
end

def unlisted (listed : Array Bool) : Nat := (listed.toList.filter (fun b => !b)).length
theorem unlisted_set {listed : Array Bool} {i : Nat} (h : listed.getD i true = false) : unlisted listed = unlisted (listed.setIfInBounds i true) + 1 := by
  obtain ⟨l⟩ := listed
  unfold unlisted
  simp only [Array.getD_eq_getD_getElem?, List.getElem?_toArray] at h
  have hi : i < l.length := by
    rcases Nat.lt_or_ge i l.length with h' | h'
    · exact h'
    · rw [List.getElem?_eq_none h'] at h; simp at h
  rw [List.getElem?_eq_getElem hi] at h
  simp only [Option.getD_some] at h
  simp only [Array.toList_setIfInBounds]
  rw [List.set_eq_take_append_cons_drop, if_pos hi]
  conv => lhs; rw [← List.take_append_drop i l, List.drop_eq_getElem_cons hi]
  simp [List.filter_append, List.filter_cons, h]
  omega

theorem ready_nil_all {l : List Oper} {listed : Array Bool} (hchk : ∀ i o, l[i]? = some o → ∀ e ∈ o.after, Region.binds .any e = true → e.on < i) (hs : listed.size = l.length)
    (hr : Region.ready .any l.toArray listed = []) : ∀ i, i < l.length → listed.getD i false = true := by
  intro i
  induction i using Nat.strongRecOn with
  | _ i ih =>
    intro hi
    cases hl : listed.getD i false with
    | true => rfl
    | false =>
      exfalso
      have hmem : i ∈ Region.ready .any l.toArray listed := by
        refine mem_ready.2 ⟨?_, l[i], by rw [List.getElem?_toArray, List.getElem?_eq_getElem hi], ?_⟩
        · rw [Array.getD_eq_getD_getElem?] at hl ⊢
          rw [Array.getElem?_eq_getElem (by omega)] at hl ⊢
          simpa using hl
        · intro e he hb
          have := hchk i l[i] (List.getElem?_eq_getElem hi) e he hb
          exact ih e.on this (by omega)
      rw [hr] at hmem
      cases hmem

def backOK (l : List Oper) : Bool := (List.range l.length).all fun i => match l[i]? with
  | some o => o.after.toList.all fun e => !Region.binds .any e || decide (e.on < i)
  | none => true
theorem backOK_spec {l : List Oper} (h : backOK l = true) : ∀ i o, l[i]? = some o → ∀ e ∈ o.after, Region.binds .any e = true → e.on < i := by
  intro i o ho e he hb
  unfold backOK at h
  simp only [List.all_eq_true, List.mem_range] at h
  have hi := (List.getElem?_eq_some_iff.1 ho).1
  have := h i hi
  rw [ho] at this
  simp only [List.all_eq_true, Bool.or_eq_true, Bool.not_eq_true', decide_eq_true_eq] at this
  rcases this e (by simpa using he) with h1 | h1
  · rw [hb] at h1; cases h1
  · exact h1

section
variable {P : Program} {l : List Oper} {a : Act} {w : World} {Q : Exit → Act → World → Prop} {id : Nat}
/-- nothing in the region writes: whatever the order, the frame A -/
theorem wp_drawQ {wc : World} (hm : P.follows .mixedOrders = true) (S : World → Prop) (hchk : (drawOK l && backOK l) = true) (hS : S w.drew)
    (hcanon : wpN P l.toArray (fun A _ => (∀ w', S w' → obs P l.toArray A S l w') ∧ ∀ w', S w' → Q .normal A w') l a wc) : (Code.region id l.toArray true).wp P Q a w := by
  simp only [Bool.and_eq_true] at hchk
  obtain ⟨A, _, ⟨hobs, hend⟩, hsz, hdf, hfr⟩ := wpN_some l a wc hcanon
  refine wp_region_any hm ?_
  have hnd : noDup (dsts l) = true := by have := hchk.1; unfold drawOK at this; simp only [Bool.and_eq_true] at this; exact this.1
  have key : ∀ (fuel : Nat) (listed : Array Bool) (x : Act) (w' : World), unlisted listed ≤ fuel → Mid l a A x listed → S w' → wpAny P .any l.toArray Q fuel listed x w' := by
    intro fuel
    induction fuel with
    | zero =>
      intro listed x w' hf hmid hSw
      have hr : Region.ready .any l.toArray listed = [] := by
        cases hr : Region.ready .any l.toArray listed with
        | nil => rfl
        | cons i r =>
          have hmem : i ∈ Region.ready .any l.toArray listed := by rw [hr]; simp
          have := unlisted_set (mem_ready.1 hmem).1
          omega
      refine ⟨hr, ?_⟩
      rw [hmid.fin (ready_nil_all (backOK_spec hchk.2) hmid.lsize hr)]
      exact hend w' hSw
    | succ fuel ih =>
      intro listed x w' hf hmid hSw
      refine ⟨fun hr => ?_, fun i hi => ?_⟩
      · rw [hmid.fin (ready_nil_all (backOK_spec hchk.2) hmid.lsize hr)]
        exact hend w' hSw
      · obtain ⟨hn, o, ho, hrd⟩ := mem_ready.1 hi
        rw [List.getElem?_toArray] at ho
        refine hmid.run hchk.1 ho hrd (obs_mem (hobs w' hSw) o (List.mem_of_getElem? ho)) ?_
        intro v w'' hag hS'
        refine ih _ _ _ ?_ (hmid.step hnd ho hag) hS'
        have := unlisted_set hn
        omega
  refine key _ _ _ _ ?_ (Mid.start hsz hdf hfr) hS
  unfold unlisted
  simp

/-- the last operation writes, and waits for all others -/
theorem wp_drawS {wc : World} {l0 : List Oper} {ol : Oper} (hm : P.follows .mixedOrders = true) (S S' : World → Prop) (hchk : (drawOK (l0 ++ [ol]) && (backOK (l0 ++ [ol]) && lastOK (l0 ++ [ol]) l0.length ol)) = true) (hS : S w.drew)
    (hcanon : wpN P (l0 ++ [ol]).toArray (fun A _ => (∀ w', S w' → obs P (l0 ++ [ol]).toArray A S l0 w') ∧ (∀ w', S w' → wpN P (l0 ++ [ol]).toArray (fun a' w'' => agree ol.dst a' A ∧ S' w'') [ol] A w') ∧ ∀ w', S' w' → Q .normal A w') (l0 ++ [ol]) a wc) :
    (Code.region id (l0 ++ [ol]).toArray true).wp P Q a w := by
  simp only [Bool.and_eq_true] at hchk
  obtain ⟨hc1, hc2, hc3⟩ := hchk
  obtain ⟨A, _, ⟨hobs, hlast, hend⟩, hsz, hdf, hfr⟩ := wpN_some _ a wc hcanon
  refine wp_region_any hm ?_
  have hnd : noDup (dsts (l0 ++ [ol])) = true := by have := hc1; unfold drawOK at this; simp only [Bool.and_eq_true] at this; exact this.1
  have key : ∀ (fuel : Nat) (listed : Array Bool) (x : Act) (w' : World), unlisted listed ≤ fuel → Mid (l0 ++ [ol]) a A x listed →
      (∀ i o, (l0 ++ [ol])[i]? = some o → listed.getD i false = true → ∀ e ∈ o.after, Region.binds .any e = true → listed.getD e.on false = true) →
      ((listed.getD l0.length false = false ∧ S w') ∨ ((∀ i, i < (l0 ++ [ol]).length → listed.getD i false = true) ∧ S' w')) → wpAny P .any (l0 ++ [ol]).toArray Q fuel listed x w' := by
    intro fuel
    induction fuel with
    | zero =>
      intro listed x w' hf hmid hcl hSw
      have hr : Region.ready .any (l0 ++ [ol]).toArray listed = [] := by
        cases hr : Region.ready .any (l0 ++ [ol]).toArray listed with
        | nil => rfl
        | cons i r =>
          have hmem : i ∈ Region.ready .any (l0 ++ [ol]).toArray listed := by rw [hr]; simp
          have := unlisted_set (mem_ready.1 hmem).1
          omega
      have hall := ready_nil_all (backOK_spec hc2) hmid.lsize hr
      refine ⟨hr, ?_⟩
      rw [hmid.fin hall]
      rcases hSw with ⟨h1, _⟩ | ⟨_, h2⟩
      · rw [hall l0.length (by simp)] at h1; cases h1
      · exact hend w' h2
    | succ fuel ih =>
      intro listed x w' hf hmid hcl hSw
      refine ⟨fun hr => ?_, fun i hi => ?_⟩
      · have hall := ready_nil_all (backOK_spec hc2) hmid.lsize hr
        rw [hmid.fin hall]
        rcases hSw with ⟨h1, _⟩ | ⟨_, h2⟩
        · rw [hall l0.length (by simp)] at h1; cases h1
        · exact hend w' h2
      · obtain ⟨hn, o, ho, hrd⟩ := mem_ready.1 hi
        rw [List.getElem?_toArray] at ho
        have hil : i < (l0 ++ [ol]).length := (List.getElem?_eq_some_iff.1 ho).1
        have hcl' : ∀ i' o', (l0 ++ [ol])[i']? = some o' → (listed.setIfInBounds i true).getD i' false = true → ∀ e ∈ o'.after, Region.binds .any e = true → (listed.setIfInBounds i true).getD e.on false = true := by
          intro i' o' ho' hl' e he hb
          by_cases hii : i = i'
          · subst hii
            rw [ho] at ho'; cases ho'
            exact getD_set_true (hrd e he hb)
          · rw [getD_set_ne _ hii] at hl'
            exact getD_set_true (hcl i' o' ho' hl' e he hb)
        rcases hSw with ⟨h1, hSw⟩ | ⟨hall, _⟩
        · by_cases hlt : i < l0.length
          · have ho2 : l0[i]? = some o := by rw [List.getElem?_append_left hlt] at ho; exact ho
            refine hmid.run hc1 ho hrd (obs_mem (hobs w' hSw) o (List.mem_of_getElem? ho2)) ?_
            intro v w'' hag hS'
            refine ih _ _ _ ?_ (hmid.step hnd ho hag) hcl' (.inl ⟨by rw [getD_set_ne _ (by omega)]; exact h1, hS'⟩)
            have := unlisted_set hn
            omega
          · have hie : i = l0.length := by simp at hil; omega
            subst hie
            have hoo : o = ol := by simpa using ho.symm
            subst hoo
            refine hmid.run hc1 ho hrd (hlast w' hSw) ?_
            intro v w'' hag hS'
            refine ih _ _ _ ?_ (hmid.step hnd ho hag) hcl' (.inr ⟨?_, hS'⟩)
            · have := unlisted_set hn
              omega
            · intro j hj
              by_cases hjl : l0.length = j
              · subst hjl
                have hls := hmid.lsize
                rw [Array.getD_eq_getD_getElem?, Array.getElem?_setIfInBounds_self_of_lt (by rw [hls]; exact hj)]
                rfl
              · rw [getD_set_ne _ hjl]
                have hj2 : j < l0.length := by simp at hj; omega
                unfold lastOK at hc3
                simp only [List.all_eq_true, List.mem_range, List.any_eq_true, Bool.and_eq_true] at hc3
                obtain ⟨e, he, hb, hej⟩ := hc3 j hj2
                exact reach_spec (T := fun q => listed.getD q false = true) (fun i' o' ho' hl' e' he' hb' => hcl i' o' ho' hl' e' he' hb') 3 e.on j (hrd e (by simpa using he) hb) hej
        · have := hall i hil
          rw [Array.getD_eq_getD_getElem?] at hn this
          cases hq : listed[i]? with
          | none => rw [hq] at this; simp at this
          | some b => rw [hq] at hn this; simp at hn this; rw [hn] at this; cases this
  refine key _ _ _ _ ?_ (Mid.start hsz hdf hfr) (fun i o _ hl => ?_) (.inl ⟨?_, hS⟩)
  · unfold unlisted
    simp
  · exfalso
    rw [Array.getD_eq_getD_getElem?] at hl
    by_cases h : i < (l0 ++ [ol]).length
    · simp at h
      simp [h] at hl
    · rw [Array.getElem?_eq_none (by simp at h ⊢; omega)] at hl; simp at hl
  · rw [Array.getD_eq_getD_getElem?]; simp
end

def obsS (P : Program) (ops : Array Oper) (A : Act) (S S' : World → Prop) : List Oper → World → Prop
  | [], _ => True
  | o :: rest, w => match rest with
    | [] => wpN P ops (fun a' w' => agree o.dst a' A ∧ S' w') [o] A w
    | _ :: _ => wpN P ops (fun a' w' => agree o.dst a' A ∧ S w') [o] A w ∧ obsS P ops A S S' rest w
theorem obsS_one {P : Program} {ops : Array Oper} {A : Act} {S S' : World → Prop} {w : World} (o : Oper) : obsS P ops A S S' [o] w = wpN P ops (fun a' w' => agree o.dst a' A ∧ S' w') [o] A w := rfl
theorem obsS_cons {P : Program} {ops : Array Oper} {A : Act} {S S' : World → Prop} {w : World} (o o2 : Oper) (rest : List Oper) :
    obsS P ops A S S' (o :: o2 :: rest) w = (wpN P ops (fun a' w' => agree o.dst a' A ∧ S w') [o] A w ∧ obsS P ops A S S' (o2 :: rest) w) := rfl
theorem obs_nil {P : Program} {ops : Array Oper} {A : Act} {S : World → Prop} {w : World} : obs P ops A S [] w = True := rfl
theorem obs_cons {P : Program} {ops : Array Oper} {A : Act} {S : World → Prop} {w : World} (o : Oper) (rest : List Oper) :
    obs P ops A S (o :: rest) w = (wpN P ops (fun a' w' => agree o.dst a' A ∧ S w') [o] A w ∧ obs P ops A S rest w) := rfl
theorem obsS_split {P : Program} {ops : Array Oper} {A : Act} {S S' : World → Prop} {w : World} : ∀ (l0 : List Oper) (ol : Oper), obsS P ops A S S' (l0 ++ [ol]) w →
    obs P ops A S l0 w ∧ wpN P ops (fun a' w' => agree ol.dst a' A ∧ S' w') [ol] A w
  | [], ol, h => ⟨trivial, h⟩
  | [o], ol, h => ⟨⟨h.1, trivial⟩, h.2⟩
  | o :: o2 :: l0, ol, h => by
    have := obsS_split (o2 :: l0) ol h.2
    exact ⟨⟨h.1, this.1⟩, this.2⟩
theorem split_last : ∀ (l : List Oper), l ≠ [] → ∃ l0 ol, l = l0 ++ [ol]
  | [], h => absurd rfl h
  | [o], _ => ⟨[], o, rfl⟩
  | o :: o2 :: l, _ => by
    obtain ⟨l0, ol, h⟩ := split_last (o2 :: l) (by simp)
    exact ⟨o :: l0, ol, by rw [h]; rfl⟩
def lastOf (l : List Oper) : Bool := match l.getLast? with
  | some ol => lastOK l (l.length - 1) ol
  | none => false
theorem wp_drawW {P : Program} {l : List Oper} {a : Act} {w wc : World} {Q : Exit → Act → World → Prop} {id : Nat} (hm : P.follows .mixedOrders = true) (S S' : World → Prop)
    (hchk : (drawOK l && (backOK l && lastOf l)) = true) (hS : S w.drew)
    (hcanon : wpN P l.toArray (fun A _ => (∀ w', S w' → obsS P l.toArray A S S' l w') ∧ ∀ w', S' w' → Q .normal A w') l a wc) :
    (Code.region id l.toArray true).wp P Q a w := by
  have hne : l ≠ [] := by
    rintro rfl
    simp [lastOf] at hchk
  obtain ⟨l0, ol, rfl⟩ := split_last l hne
  refine wp_drawS (wc := wc) hm S S' ?_ hS ?_
  · simp only [Bool.and_eq_true] at hchk ⊢
    refine ⟨hchk.1, hchk.2.1, ?_⟩
    have := hchk.2.2
    unfold lastOf at this
    simp only [List.getLast?_append, List.getLast?_singleton, Option.some_or, List.length_append, List.length_cons, List.length_nil, Nat.add_sub_cancel] at this
    exact this
  · have hmono : ∀ (K K' : Act → World → Prop), (∀ A w, K A w → K' A w) → ∀ (l' : List Oper) (a : Act) (w : World), wpN P (l0 ++ [ol]).toArray K l' a w → wpN P (l0 ++ [ol]).toArray K' l' a w := by
      intro K K' hKK l'
      induction l' with
      | nil => intro a w h; exact hKK _ _ h
      | cons o rest ih =>
        intro a w h
        unfold wpN at h ⊢
        split
        · rename_i hw
          rw [if_pos hw] at h
          unfold runN at h ⊢
          split at h
          · exact ih _ _ h
          · exact ih _ _ h
          · exact CN.mono h (fun _ _ h' => ih _ _ h')
          · exact h.elim
        · rename_i hw
          rw [if_neg hw] at h
          exact ih _ _ h
    refine hmono _ _ ?_ _ _ _ hcanon
    rintro A w1 ⟨h1, h2⟩
    exact ⟨fun w' h => (obsS_split _ _ (h1 w' h)).1, fun w' h => (obsS_split _ _ (h1 w' h)).2, h2⟩
theorem mixed : Yagv.prog.follows .mixedOrders = true := by kernel_rfl

/-- the two laws as the walk takes them -/
theorem drawW {l : List Oper} {a : Act} {w wc : World} {Q : Exit → Act → World → Prop} {id : Nat} (S S' : World → Prop)
    (hchk : (drawOK l && (backOK l && lastOf l)) = true) (hS : S w.drew)
    (hcanon : ∀ K : Act → World → Prop, (∀ A w1, ((∀ w', S w' → obsS Yagv.prog l.toArray A S S' l w') ∧ ∀ w', S' w' → Q .normal A w') → K A w1) → wpN Yagv.prog l.toArray K l a wc) :
    (Code.region id l.toArray true).wp Yagv.prog Q a w := wp_drawW (wc := wc) mixed S S' hchk hS (hcanon _ fun _ _ h => h)
theorem drawQ {l : List Oper} {a : Act} {w wc : World} {Q : Exit → Act → World → Prop} {id : Nat} (S : World → Prop)
    (hchk : (drawOK l && backOK l) = true) (hS : S w.drew)
    (hcanon : ∀ K : Act → World → Prop, (∀ A w1, ((∀ w', S w' → obs Yagv.prog l.toArray A S l w') ∧ ∀ w', S w' → Q .normal A w') → K A w1) → wpN Yagv.prog l.toArray K l a wc) :
    (Code.region id l.toArray true).wp Yagv.prog Q a w := wp_drawQ (wc := wc) mixed S hchk hS (hcanon _ fun _ _ h => h)
end Go.Proofs.Yahagw
