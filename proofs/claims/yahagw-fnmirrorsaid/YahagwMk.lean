/-
  A frame as a function of its slots: cheaper to look up than a chain of stores into an array.
-/
import Derived.Test.YahagwMem2
set_option linter.unusedSimpArgs false
set_option linter.unusedVariables false
namespace Go.Proofs.Yahagw

def mkA (f : Nat → Value) (n : Nat) : Act := ⟨((List.range n).map f).toArray, []⟩
def fup (f : Nat → Value) (d : Nat) (v : Value) : Nat → Value := fun t => if t = d then v else f t
theorem fup_same (f : Nat → Value) (d : Nat) (v : Value) : fup f d v d = v := by simp [fup]
theorem fup_ne (f : Nat → Value) (d t : Nat) (v : Value) (h : (d == t) = false) : fup f d v t = f t := by
  have : ¬ t = d := by intro he; subst he; simp at h
  simp [fup, this]
theorem mk_sz (f : Nat → Value) (n : Nat) : (mkA f n).tmps.size = n := by simp [mkA]
theorem mk_df (f : Nat → Value) (n : Nat) : (mkA f n).defers = [] := rfl
theorem mk_ev (f : Nat → Value) (n t : Nat) (h : t < n) : (mkA f n).eval (.tmp t) = f t := by
  simp [mkA, Act.eval, h]
theorem ev_out {a : Act} {t : Nat} (h : a.tmps.size ≤ t) : a.eval (.tmp t) = undef := by
  simp only [Act.eval, Array.getD_eq_getD_getElem?, Array.getElem?_eq_none h]; rfl
theorem mk_put (f : Nat → Value) (n d : Nat) (v : Value) : (mkA f n).put (some d) v = mkA (fup f d v) n := by
  refine eval_ext (by simp [sz_put, mk_sz]) (by simp [df_put, mk_df]) fun t => ?_
  by_cases ht : t < n
  · rw [mk_ev _ _ _ ht]
    by_cases hd : d = t
    · subst hd
      rw [ev_put_same _ _ _ (by rw [mk_sz]; exact ht), fup_same]
    · rw [ev_put_ne _ _ _ _ (by simpa using hd), mk_ev _ _ _ ht, fup_ne _ _ _ _ (by simpa using hd)]
  · have ht' : n ≤ t := Nat.le_of_not_lt ht
    rw [ev_out (by rw [sz_put, mk_sz]; exact ht'), ev_out (by rw [mk_sz]; exact ht')]
theorem act_mk {a : Act} {n : Nat} (hsz : a.tmps.size = n) (hdf : a.defers = []) : ∃ f, a = mkA f n := by
  refine ⟨fun t => a.eval (.tmp t), eval_ext (by rw [hsz, mk_sz]) (by rw [hdf, mk_df]) fun t => ?_⟩
  by_cases ht : t < n
  · rw [mk_ev _ _ _ ht]
  · have ht' : n ≤ t := Nat.le_of_not_lt ht
    rw [ev_out (by rw [hsz]; exact ht'), ev_out (by rw [mk_sz]; exact ht')]
/-- entering with the frame as a function -/
theorem enterM {P : Program} {f : FuncId} {fn : Func} {c : Code} {args : Array Value} {w : World} {R : Value → World → Prop} (n : Nat)
    (hf : P.funcs[f]? = some fn) (hb : fn.body = some c) (hn : fn.ntmps = n) (hs : args.size ≤ n)
    (h : ∀ F : Nat → Value, (∀ i v, args[i]? = some v → F i = v) → c.wp P (bodyPost P fn (postN R)) (mkA F n) w) : CN P f args w R := by
  refine enter n hf hb hn hs ?_
  intro a hsz hdf hargs
  obtain ⟨F, rfl⟩ := act_mk hsz hdf
  refine h F fun i v hv => ?_
  have hi : i < args.size := (Array.getElem?_eq_some_iff.1 hv).1
  have := hargs i v hv
  rwa [mk_ev _ _ _ (by omega)] at this
/-- a loop with a ghost, the frame as a function -/
theorem wp_loop_m {P : Program} {Q : Exit → Act → World → Prop} {w : World} {c : Code} {G : Type} {n : Nat} {F : Nat → Value} (m : G → Nat) (I : G → (Nat → Value) → World → Prop) (g₀ : G) (h₀ : I g₀ F w)
    (round : ∀ g F w, I g F w → c.wp P (Exit.then (fun a' w' => ∃ g' F', a' = mkA F' n ∧ m g' < m g ∧ I g' F' w') Q) (mkA F n) w) : (Code.loop c).wp P Q (mkA F n) w := by
  refine wp_loop_g m (fun g a w => ∃ F, a = mkA F n ∧ I g F w) g₀ ⟨F, rfl, h₀⟩ ?_
  rintro g a w ⟨F, rfl, hI⟩
  refine wp_mono (round g F w hI) ?_
  intro e a' w' hq
  cases e with
  | normal =>
    obtain ⟨g', F', rfl, hlt, hI'⟩ := hq
    exact ⟨g', hlt, F', rfl, hI'⟩
  | exit id => exact hq
  | goto l => exact hq
  | ret => exact hq
  | panic ch => exact hq
  | outgrown => exact hq

section
variable {P : Program} {K : Act → World → Prop} {rest : List Oper} {a : Act} {w : World} {d : Option Nat} {ty : TypeId} {pos : String} {af : Array Edge}
theorem wpN_gt {l : List Oper} (op : Op) (j : Nat) (b : Bool) (h : gdAt a (nthDst l j) b = true) :
    wpN P l.toArray K ({ dst := d, op := op, type := ty, pos := pos, after := af, guard := some (j, b) } :: rest) a w =
      wpN P l.toArray K ({ dst := d, op := op, type := ty, pos := pos, after := af, guard := none } :: rest) a w := by
  rw [wpN_guard, if_pos h]
theorem wpN_gf {l : List Oper} (op : Op) (j : Nat) (b : Bool) (h : gdAt a (nthDst l j) b = false) :
    wpN P l.toArray K ({ dst := d, op := op, type := ty, pos := pos, after := af, guard := some (j, b) } :: rest) a w = wpN P l.toArray K rest (a.put d undef) w := by
  rw [wpN_guard, if_neg (by rw [h]; simp)]
end
end Go.Proofs.Yahagw
