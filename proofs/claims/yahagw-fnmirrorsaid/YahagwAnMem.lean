/-
  What Analyze builds and stores whole.
-/
import Derived.Test.YahagwOnly
import Derived.Test.YahagwCmp
set_option linter.unusedSimpArgs false
set_option linter.unusedVariables false
namespace Go.Proofs.Yahagw
open Go.RowKit

theorem retC {P : Program} {fn : Func} {R : Value → World → Prop} {a : Act} {w : World} {t b : Nat} {e ty : TypeId} {L : List Value} {d : TypeDesc} (hr : fn.results = #[.cell t ty])
    (hd : a.defers = []) (hv : a.eval (.tmp t) = .pointer (some ⟨b, 0, none⟩)) (hrow : Row w b e L) (hu : P.underlying ty = some d) (hdd : rowB d = true) (hn : (P.info? ty).map (·.size) = some L.length)
    (h : R (.agg L.toArray) w) : bodyPost P fn (postN R) .ret a w := by
  refine bodyPost_ret (v := .agg L.toArray) ?_ hd ⟨_, rfl, h⟩
  have hvv : a.tmps.getD t undef = .pointer (some ⟨b, 0, none⟩) := hv
  have hl : (loadCells ⟨b, 0, none⟩ L.length).run P w = .ok L.toArray w := run_loadCells_list (P := P) w _ L (fun j v hj => by rw [Addr.add_lit, Nat.zero_add, hrow.cell]; exact hj)
  have hagg : (isAgg ty).run P w = .ok true w := by
    unfold isAgg
    rw [Sem.run_bind, run_underlying hu w]
    cases d <;> first | rfl | (simp [rowB] at hdd)
  cases hq : P.info? ty with
  | none => rw [hq] at hn; simp at hn
  | some i =>
    rw [hq] at hn; simp at hn
    simp only [Array.getD_eq_getD_getElem?] at hvv
    simp [results, hr, hvv, asAddr, loadVar, hagg, sizeOf, typeInfo, hq, hn, hl]

theorem fold_app (vs A B : List Value) (hl : A.length = vs.length) :
    Array.foldl (fun cs (p : Value × Nat) => cs.setIfInBounds (0 + p.2) p.1) (A ++ B).toArray vs.toArray.zipIdx = (vs ++ B).toArray := by
  have hf := fold_set vs 0 0 (A ++ B).toArray (by simp; omega)
  rw [← Array.foldl_toList, Array.toList_zipIdx]
  apply Array.ext'
  rw [hf]
  simp only [Nat.zero_add, List.take_zero, List.nil_append]
  rw [← hl, List.drop_append, List.drop_of_length_le (Nat.le_refl _), Nat.sub_self, List.nil_append, List.drop_zero]
theorem fill_first (place : Nat → Option (Nat × Nat)) (vs A B : List Value) (hp : place 0 = some (0, vs.length)) (hl : A.length = vs.length) :
    Instr.fill place (A ++ B).toArray [(0, .agg vs.toArray)] = some (vs ++ B).toArray := by
  have h1 : (decide ((Value.agg vs.toArray).cells.size ≠ vs.length) || decide (0 + (Value.agg vs.toArray).cells.size > (A ++ B).toArray.size)) = false := by
    simp [Value.cells]; omega
  unfold Instr.fill
  rw [hp]
  simp only [h1]
  rw [if_neg (by simp)]
  unfold Instr.fill
  simp only [Value.cells, fold_app vs A B hl]
theorem built69 (parts : List (Nat × Value)) : Yagv.prog.built 69 parts = Instr.fill (fun i => (#[(0, 257), (257, 257), (514, 1)] : Array (Nat × Nat))[i]?) (List.replicate 257 (Value.int .i64 0) ++ (List.replicate 257 (Value.int .i64 0) ++ [Value.bool false])).toArray parts := by kernel_rfl
theorem bd69 (w : World) (x : St) : bd Yagv.prog 69 #[(0, .agg (sC x).toArray)] w = .ok (.agg (frC ⟨x, st0, false⟩).toArray) w := by
  refine bd_of _ _ ?_
  rw [built69]
  have := fill_first (fun i => (#[(0, 257), (257, 257), (514, 1)] : Array (Nat × Nat))[i]?) (sC x) (List.replicate 257 (Value.int .i64 0)) (List.replicate 257 (Value.int .i64 0) ++ [Value.bool false]) (by rw [sC_len]; rfl) (by rw [sC_len, List.length_replicate])
  rw [show (#[(0, Value.agg (sC x).toArray)] : Array (Nat × Value)).toList = [(0, .agg (sC x).toArray)] from rfl, this, sC_zero]
  unfold frC
  rw [List.append_assoc]
theorem bd64_0 (w : World) : bd Yagv.prog 64 #[] w = .ok (.agg (sC st0).toArray) w := by
  rw [← sC_zero]
  exact bd_of _ _ (by kernel_rfl)
theorem bs65_1 (w : World) (L : List Value) (hL : L.length = 515) : bs Yagv.prog 65 1 #[(0, .agg L.toArray)] w = .ok (.slice (some ⟨w.heap.size, 0, none⟩) 1 1) (w.alloc (.cells L.toArray 69)) :=
  bs1_of (size := 515) (z := .agg (List.replicate 514 (Value.int .i64 0) ++ [Value.bool false]).toArray) w (.agg L.toArray) Yagv.underlying65 (by kernel_rfl) (by simp [Value.cells, hL]) (by omega) (by omega)

/-- a state read whole, stored whole -/
theorem Row.ldS {w : World} {b : Nat} {x : St} (h : Row w b 64 (sC x)) : Yahagw.ld Yagv.prog 64 (.pointer (some ⟨b, 0, none⟩)) w = .ok (.agg (sC x).toArray) w := by
  have := h.ld (t := 64) 0 Yagv.underlying64 rfl size64 (by rw [sC_len]; omega)
  rw [this, List.drop_zero, List.take_of_length_le (by rw [sC_len]; omega)]
theorem Row.stS {w : World} {b : Nat} {L : List Value} (h : Row w b 64 L) (hl : L.length = 257) (x : St) : Yahagw.st Yagv.prog 64 (.pointer (some ⟨b, 0, none⟩)) (.agg (sC x).toArray) w = .ok () (Yahagw.upd w b (sC x)) := by
  have := h.st (t := 64) 0 (.agg (sC x).toArray) size64 (by simp [Value.cells, sC_len]) (by omega) (fun u hu => sC_one x (by simpa [Value.cells] using hu))
  rw [this]
  simp only [List.take_zero, List.nil_append, Value.cells, Nat.zero_add, List.drop_of_length_le (by omega : L.length ≤ 257), List.append_nil]
theorem Row.ldN {w : World} {b : Nat} {c : Nat → Nat} (h : Row w b 62 (cC c)) : Yahagw.ld Yagv.prog 62 (.pointer (some ⟨b, 0, none⟩)) w = .ok (.agg (cC c).toArray) w := by
  have := h.ld (t := 62) 0 Yagv.underlying62 rfl size62 (by rw [cC_len]; omega)
  rw [this, List.drop_zero, List.take_of_length_le (by rw [cC_len]; omega)]
theorem Row.stN {w : World} {b : Nat} {c c' : Nat → Nat} {T : List Value} (h : Row w b 64 (cC c ++ T)) : Yahagw.st Yagv.prog 62 (.pointer (some ⟨b, 0, none⟩)) (.agg (cC c').toArray) w = .ok () (Yahagw.upd w b (cC c' ++ T)) := by
  have := h.st (t := 62) 0 (.agg (cC c').toArray) size62 (by simp [Value.cells, cC_len]) (by simp [cC_len]) (fun u hu => cC_one c' (by simpa [Value.cells] using hu))
  rw [this]
  have e : List.drop (0 + 256) (cC c ++ T) = T := by rw [List.drop_append, List.drop_of_length_le (by rw [cC_len]; omega), cC_len]; simp
  rw [e]
  simp [Value.cells]

/-! ### one frame of the stack -/
theorem take_mid (A E T I : List Value) : (A ++ (E ++ T ++ I)).take (A.length + E.length) = A ++ E := by
  rw [List.take_append, List.take_of_length_le (by omega), Nat.add_sub_cancel_left, List.append_assoc, List.take_append, List.take_of_length_le (Nat.le_refl _), Nat.sub_self]; simp
theorem drop_mid (A E T I : List Value) : (A ++ (E ++ T ++ I)).drop (A.length + E.length) = T ++ I := by
  rw [List.drop_append, List.drop_of_length_le (by omega), Nat.add_sub_cancel_left, List.append_assoc, List.drop_append, List.drop_of_length_le (Nat.le_refl _), Nat.sub_self]; simp
theorem drop_mid2 (A E T I : List Value) : (A ++ (E ++ T ++ I)).drop (A.length + E.length + T.length) = I := by
  rw [← List.drop_drop, drop_mid, List.drop_append, List.drop_of_length_le (Nat.le_refl _), Nat.sub_self]; simp
theorem drop_end (A E T I : List Value) : (A ++ (E ++ T ++ I)).drop A.length = E ++ T ++ I := by
  rw [List.drop_append, List.drop_of_length_le (Nat.le_refl _), Nat.sub_self]; simp
end Go.Proofs.Yahagw
