/-
  Which blocks a piece of code may have written; the loops of a body; the cells of Analyze's states.
-/
import Derived.Test.YahagwNote
set_option linter.unusedSimpArgs false
set_option linter.unusedVariables false
namespace Go.Proofs.Yahagw
open Go.RowKit

structure Only (S : Nat → Prop) (w w' : World) : Prop where
  os : w'.os = w.os
  tape : w'.tape = w.tape
  output : w'.output = w.output
  size : w.heap.size ≤ w'.heap.size
  block : ∀ k, k < w.heap.size → ¬ S k → w'.heap[k]? = w.heap[k]?
theorem Only.refl (S : Nat → Prop) (w : World) : Only S w w := ⟨rfl, rfl, rfl, Nat.le_refl _, fun _ _ _ => rfl⟩
theorem Only.trans {S : Nat → Prop} {a b c : World} (h : Only S a b) (k : Only S b c) : Only S a c :=
  ⟨k.os.trans h.os, k.tape.trans h.tape, k.output.trans h.output, Nat.le_trans h.size k.size, fun i hi hs => (k.block i (Nat.lt_of_lt_of_le hi h.size) hs).trans (h.block i hi hs)⟩
theorem Only.upd {S : Nat → Prop} {a w : World} (h : Only S a w) {b : Nat} (hb : S b) (L : List Value) : Only S a (Yahagw.upd w b L) :=
  h.trans ⟨rfl, rfl, rfl, by rw [size_upd]; exact Nat.le_refl _, fun k hk hs => setRow_other w b k _ (fun e => hs (by rw [e]; exact hb))⟩
theorem Only.alloc {S : Nat → Prop} {a w : World} (h : Only S a w) (o : Obj) : Only S a (w.alloc o) :=
  h.trans ⟨rfl, rfl, rfl, by simp, fun k hk _ => Below.heap_alloc w o k hk⟩
theorem Only.drew {S : Nat → Prop} {a w : World} (h : Only S a w) : Only S a w.drew := ⟨h.os, h.tape, h.output, h.size, h.block⟩
theorem Only.mono {S T : Nat → Prop} {a w : World} (h : Only S a w) (hst : ∀ k, S k → T k) : Only T a w :=
  ⟨h.os, h.tape, h.output, h.size, fun k hk hs => h.block k hk (fun e => hs (hst k e))⟩
theorem Only.below {S : Nat → Prop} {B : Nat} {a w : World} (h : Only S a w) (hB : B ≤ a.heap.size) (hS : ∀ k, S k → B ≤ k) : Below B a w :=
  ⟨h.os, h.tape, h.output, h.size, fun k hk => h.block k (by omega) (fun e => by have := hS k e; omega)⟩
theorem Below.only {B : Nat} {a w : World} (h : Below B a w) : Only (fun k => B ≤ k) a w := ⟨h.os, h.tape, h.output, h.size, fun k hk hs => h.block k (by omega)⟩
theorem Row.only {S : Nat → Prop} {w w' : World} {b : Nat} {e : TypeId} {L : List Value} (h : Row w b e L) (ho : Only S w w') (hb : ¬ S b) : Row w' b e L := by
  unfold Row; rw [ho.block b h.lt hb]; exact h
theorem Own.only {S : Nat → Prop} {w w' : World} {g : Nat} {e : TypeId} {size n cap : Nat} {xs : List Value} (h : Own w g e size n cap xs) (ho : Only S w w') (hb : ¬ S g) : Own w' g e size n cap xs := by
  obtain ⟨h1, h2, h3, ys, hr, hl⟩ := h; exact ⟨h1, h2, h3, ys, hr.only ho hb, hl⟩
theorem Own.ne {w : World} {g b : Nat} {e e' : TypeId} {size n cap : Nat} {xs L : List Value} (h : Own w g e size n cap xs) (hr : Row w b e' L) (hne : e ≠ e') : g ≠ b := by
  obtain ⟨_, _, _, ys, h', _⟩ := h; exact h'.ne hr hne

/-- the loops of a body, from the outside in, in the order of the text -/
def loopsIn : Code → List Code
  | .loop c => .loop c :: loopsIn c
  | .seq a b => loopsIn a ++ loopsIn b
  | .block _ c => loopsIn c
  | .cond _ a b => loopsIn a ++ loopsIn b
  | _ => []
def nthLoop (n : Nat) (b : Option Code) : Code := match b with
  | some c => ((loopsIn c)[n]?).getD .skip
  | none => .skip

/-! ### the cells of a state -/
def cC (c : Nat → Nat) : List Value := (List.range 256).map fun m => .int .i64 (sg (c m) : Int)
def sC (x : St) : List Value := cC x.cnt ++ [.int .i64 (sg x.tot : Int)]
def frC (fr : Fr) : List Value := sC fr.e ++ sC fr.t ++ [.bool fr.inE]
def stkC : List Fr → List Value
  | [] => []
  | fr :: r => stkC r ++ frC fr
theorem cC_len (c : Nat → Nat) : (cC c).length = 256 := by simp [cC]
theorem sC_len (x : St) : (sC x).length = 257 := by simp [sC, cC_len]
theorem frC_len (fr : Fr) : (frC fr).length = 515 := by simp [frC, sC_len]
theorem stkC_len : ∀ r : List Fr, (stkC r).length = r.length * 515
  | [] => rfl
  | fr :: r => by simp only [stkC, List.length_append, stkC_len r, frC_len, List.length_cons]; omega
theorem cC_at (c : Nat → Nat) {m : Nat} (h : m < 256) : (cC c)[m]? = some (.int .i64 (sg (c m) : Int)) := by
  simp [cC, h]
theorem sC_at (x : St) {m : Nat} (h : m < 256) : (sC x)[m]? = some (.int .i64 (sg (x.cnt m) : Int)) := by
  unfold sC; rw [List.getElem?_append_left (by rw [cC_len]; exact h), cC_at _ h]
theorem sC_tot (x : St) : (sC x)[256]? = some (.int .i64 (sg x.tot : Int)) := by
  unfold sC; rw [List.getElem?_append_right (by rw [cC_len]; exact Nat.le_refl _), cC_len]; rfl
theorem cC_set (c : Nat → Nat) (m v : Nat) : (cC c).set m (.int .i64 (sg v : Int)) = cC (fun q => if q = m then v else c q) := by
  unfold cC
  apply List.ext_getElem?
  intro i
  rw [List.getElem?_set]
  by_cases hi : i < 256
  · by_cases hm : m = i
    · subst hm; simp [hi]
    · have : ¬ i = m := fun e => hm e.symm
      simp [hi, hm, this]
  · have : ¬ i < 256 := hi
    simp [this]
    intro he; subst he; omega
theorem sg_zero : sg 0 = 0 := rfl
theorem cC_zero : List.replicate 256 (Value.int .i64 0) = cC (fun _ => 0) := by
  unfold cC
  rw [show (fun m : Nat => Value.int .i64 ((sg ((fun _ => 0) m) : Nat) : Int)) = fun _ => Value.int .i64 0 from rfl, List.map_const', List.length_range]
theorem sC_zero : List.replicate 257 (Value.int .i64 0) = sC st0 := by
  unfold sC
  rw [show (257 : Nat) = 256 + 1 from rfl, ← List.replicate_append_replicate, cC_zero]
  rfl
theorem cC_one {v : Value} (c : Nat → Nat) (h : v ∈ cC c) : v.oneCell' = true := by
  unfold cC at h
  obtain ⟨m, _, rfl⟩ := List.mem_map.1 h
  rfl
theorem sC_one {v : Value} (x : St) (h : v ∈ sC x) : v.oneCell' = true := by
  unfold sC at h
  rcases List.mem_append.1 h with h | h
  · exact cC_one _ h
  · simp at h; subst h; rfl
theorem frC_one {v : Value} (x : Fr) (h : v ∈ frC x) : v.oneCell' = true := by
  unfold frC at h
  rcases List.mem_append.1 h with h | h
  · rcases List.mem_append.1 h with h | h
    · exact sC_one _ h
    · exact sC_one _ h
  · simp at h; subst h; rfl
theorem sg_pos (n : Nat) : (((sg n : Nat) : Int) == 0) = decide (n = 0) := by
  have : sg n = 0 ↔ n = 0 := by unfold sg cap; omega
  by_cases h : n = 0
  · subst h; rfl
  · have h' : ¬ sg n = 0 := fun e => h (this.1 e)
    simp only [h, decide_false, beq_eq_false_iff_ne]; omega
theorem sg_gt (n : Nat) : ((0 : Int) < ((sg n : Nat) : Int)) = (0 < n) := by
  have : 0 < sg n ↔ 0 < n := by unfold sg cap; omega
  apply propext
  rw [← this]; omega
end Go.Proofs.Yahagw
