/-
  A program in memory of the call's own; make; what the laws' walks want.
-/
import Derived.Test.YahagwMem
import Derived.Test.YahagwDraw
set_option linter.unusedSimpArgs false
set_option linter.unusedVariables false
namespace Go.Proofs.Yahagw
open Go.RowKit

def opsCells : List IOp → List Value
  | [] => []
  | o :: L => opCells o ++ opsCells L
theorem opsCells_len : ∀ L : List IOp, (opsCells L).length = L.length * 3
  | [] => rfl
  | o :: L => by simp only [opsCells, List.length_append, opsCells_len L, opCells, List.length_cons, List.length_nil]; omega
theorem opsCells_append : ∀ A B : List IOp, opsCells (A ++ B) = opsCells A ++ opsCells B
  | [], B => rfl
  | o :: A, B => by simp only [List.cons_append, opsCells, opsCells_append A B, List.append_assoc]
theorem opsCells_one (o : IOp) : opsCells [o] = opCells o := by simp [opsCells]
theorem opsCells_at : ∀ (L : List IOp) (i : Nat) (o : IOp) (j : Nat) (u : Value), L[i]? = some o → (opCells o)[j]? = some u → (opsCells L)[i * 3 + j]? = some u
  | [], i, o, j, u, h, _ => by simp at h
  | x :: L, 0, o, j, u, h, hu => by
    simp at h; subst h
    have hj : j < 3 := by have := (List.getElem?_eq_some_iff.1 hu).1; simpa [opCells] using this
    rw [opsCells, List.getElem?_append_left (by simp [opCells]; omega)]
    simpa using hu
  | x :: L, i + 1, o, j, u, h, hu => by
    simp at h
    rw [opsCells, List.getElem?_append_right (by simp [opCells]; omega)]
    have := opsCells_at L i o j u h hu
    rw [show (i + 1) * 3 + j - (opCells x).length = i * 3 + j by simp [opCells]; omega]
    exact this
theorem Row.ops {w : World} {g : Nat} {e : TypeId} {L : List IOp} {ys : List Value} (h : Row w g e (opsCells L ++ ys)) : OpsAt w (some ⟨g, 0, none⟩) L := by
  intro i o ho
  refine ⟨_, rfl, fun j u hu => ?_⟩
  rw [Addr.add_lit, h.cell, Nat.zero_add]
  have := opsCells_at L i o j u ho hu
  rw [List.getElem?_append_left (List.getElem?_eq_some_iff.1 this).1]
  exact this
theorem OpsAt.nil (w : World) (v : Option Addr) : OpsAt w v [] := by
  intro i o ho; simp at ho
theorem Own.ops {w : World} {g : Nat} {n cap : Nat} {L : List IOp} (h : Own w g 33 3 n cap (opsCells L)) : OpsAt w (some ⟨g, 0, none⟩) L := by
  obtain ⟨_, _, _, ys, hr, _⟩ := h; exact hr.ops

/-! ### make -/
theorem mk_of {t e size bytes : Nat} {z : Value} (w : World) (n c : Nat) (ht : Yagv.prog.underlying t = some (.slice e)) (hi : (Yagv.prog.info? e).map (fun i => (i.zero, i.size, i.bytes)) = some (some z, size, bytes))
    (hn : n ≤ c) (hb : bytes * c ≤ 281474976710656) (hc : c ≤ 9223372036854775807) :
    mk Yagv.prog t (.int .i64 (n : Int)) (.int .i64 (c : Int)) w = .ok (.slice (some ⟨w.heap.size, 0, none⟩) n c) (w.alloc (.cells (madeCells z.cells (c * size)) e)) := by
  obtain ⟨i, hi0, hz0, hs0, hb0⟩ := info_parts hi
  have hbi : (bytes : Int) * (c : Int) ≤ 281474976710656 := by
    have h : ((bytes * c : Nat) : Int) ≤ 281474976710656 := by omega
    rwa [Int.natCast_mul] at h
  have := run_make (P := Yagv.prog) w t e i z ht hi0 hz0 .i64 .i64 (n : Int) (c : Int) (by omega) (by omega) (by rw [hb0]; exact hbi) (by omega)
  unfold mk
  rw [this]
  simp [hs0]
theorem made_len (z : Array Value) (n : Nat) : ∃ M : List Value, M.length = n ∧ madeCells z n = M.toArray := ⟨(madeCells z n).toList, by simp [size_madeCells], by simp⟩
theorem made_one (z : Value) (n : Nat) : madeCells #[z] n = (List.replicate n z).toArray := by
  unfold madeCells
  apply Array.ext
  · simp
  · intro i h1 h2
    simp [Nat.mod_one]
end Go.Proofs.Yahagw
