/-
  A slice of operations that came in: what is read of it.
-/
import Derived.Test.YahagwRows
import Derived.Test.YahagwMem
import Derived.WalkKit
import Derived.ProofKit
import Derived.ShutString
import Derived.ChangeOld
import Derived.Below
import Derived.Deep.Slices
set_option linter.unusedSimpArgs false
set_option linter.unusedVariables false
namespace Go.Proofs.Yahagw
open Go.ChangeShapes Go.WideShapes Go.ChangeAt Go.RowKit

theorem cells79 : Yagv.prog.cellsOf 79 = 3 := by kernel_rfl
theorem cells3' : Yagv.prog.cellsOf 3 = 1 := by kernel_rfl
theorem open_op {H : Type} {enc : TypeId × Value → H} {w : World} {base : Nat} {spare : Nat → Bool} {held : Bool} {fuel : Nat} {cs : List Value} {x : DataW H × List MemPlace}
    (h : DataW.trod enc Yagv.prog w base spare held fuel 79 cs = some x) : ∃ o : IOp, cs = opCells o := by
  obtain ⟨xs, n, _, rfl, hl, hlen, hf⟩ := DataW.trod_struct Yagv.underlying79 h
  have f0 : DataW.trod enc Yagv.prog w base spare held n 3 ((cs.drop 0).take (Yagv.prog.cellsOf 3)) = xs[0]? := hf 0 _ rfl
  have f1 : DataW.trod enc Yagv.prog w base spare held n 3 ((cs.drop 1).take (Yagv.prog.cellsOf 3)) = xs[1]? := hf 1 _ rfl
  have f2 : DataW.trod enc Yagv.prog w base spare held n 3 ((cs.drop 2).take (Yagv.prog.cellsOf 3)) = xs[2]? := hf 2 _ rfl
  rw [cells79] at hl
  match cs, hl with
  | [c0, c1, c2], _ =>
    simp only [cells3', List.drop_zero, List.take_succ_cons, List.take_zero, List.drop_succ_cons] at f0 f1 f2
    match xs, hlen with
    | [y0, y1, y2], _ =>
      obtain ⟨a, ha, _⟩ := DataW.trod_int Yagv.underlying3 f0
      obtain ⟨b, hb, _⟩ := DataW.trod_int Yagv.underlying3 f1
      obtain ⟨c, hc, _⟩ := DataW.trod_int Yagv.underlying3 f2
      simp only [List.cons.injEq, and_true] at ha hb hc
      subst ha hb hc
      exact ⟨⟨a, b, c⟩, rfl⟩
theorem open_ops {H : Type} {enc : TypeId × Value → H} {w : World} {spare : Nat → Bool} {held : Bool} {fuel : Nat} {a0 : Option Addr} {len cap : Nat} {x : DataW H × List MemPlace}
    (h : DataW.trod enc Yagv.prog w 0 spare held fuel 39 (Value.slice a0 len cap).cells.toList = some x) : ∃ L : List IOp, L.length = len ∧ OpsAt w a0 L := by
  rcases Go.Deep.open_slice Yagv.underlying39 h with ⟨hcs, _⟩ | ⟨a, l, c, m, n, D, Pl, hcs, _, hl, _, hm, _, hel⟩
  · simp [Value.cells] at hcs
    obtain ⟨rfl, rfl, rfl⟩ := hcs
    exact ⟨[], rfl, fun i o ho => by simp at ho⟩
  · simp [Value.cells] at hcs
    obtain ⟨rfl, rfl, rfl⟩ := hcs
    have hlm : len ≤ m := by rw [hm]; split <;> omega
    have each : ∀ i, i < len → ∃ o : IOp, ∀ j u, (opCells o)[j]? = some u → w.cell? (a.add (i * 3 + j)) = some u := by
      intro i hi
      obtain ⟨cs', hc, ht⟩ := hel i (by omega)
      obtain ⟨o, rfl⟩ := open_op ht
      refine ⟨o, fun j u hu => ?_⟩
      obtain ⟨_, h1, h2⟩ := World.cells?_some hc
      rw [cells79] at h1 h2
      have hj : j < 3 := by have := (List.getElem?_eq_some_iff.1 hu).1; simpa [opCells] using this
      have := h2 j hj
      rw [Addr.add_add] at this
      rw [this]; exact hu
    obtain ⟨f, hf⟩ : ∃ f : Nat → IOp, ∀ i, i < len → ∀ j u, (opCells (f i))[j]? = some u → w.cell? (a.add (i * 3 + j)) = some u := by
      refine ⟨fun i => if hi : i < len then Classical.choose (each i hi) else ⟨0, 0, 0⟩, fun i hi => ?_⟩
      simp only [dif_pos hi]
      exact Classical.choose_spec (each i hi)
    refine ⟨(List.range len).map f, by simp, ?_⟩
    intro i o ho
    have hi : i < len := by have := (List.getElem?_eq_some_iff.1 ho).1; simpa using this
    refine ⟨a, rfl, ?_⟩
    simp [hi] at ho
    subst ho
    exact hf i hi
end Go.Proofs.Yahagw
