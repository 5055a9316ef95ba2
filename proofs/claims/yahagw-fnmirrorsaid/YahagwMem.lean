/-
  Rows that a call owns: slices of its own, appended to, cut, read and written; values built; operations read out of a program.
-/
import Derived.Test.YahagwLaws
import Derived.Test.YahagwPlain
set_option linter.unusedSimpArgs false
set_option linter.unusedVariables false
namespace Go.Proofs.Yahagw
open Go.RowKit

theorem Addr.add_add (x : Addr) (i j : Nat) : (x.add i).add j = x.add (i + j) := by
  unfold Addr.add
  by_cases hi : i = 0
  · subst hi; simp
  · by_cases hj : j = 0
    · subst hj; simp [hi]
    · have : i + j ≠ 0 := by omega
      simp [hi, hj, this, Nat.add_assoc]

/-! ### a slice that the call owns -/
def Own (w : World) (g : Nat) (e : TypeId) (size n cap : Nat) (xs : List Value) : Prop :=
  xs.length = n * size ∧ n ≤ cap ∧ cap ≤ maxLen ∧ ∃ ys, Row w g e (xs ++ ys) ∧ (xs ++ ys).length = cap * size

section own
variable {w w' : World} {g : Nat} {e : TypeId} {size n cap : Nat} {xs : List Value}
theorem Own.to (h : Own w g e size n cap xs) {base : Nat} (hb : base ≤ g) : w.ownsRow base e size (.slice (some ⟨g, 0, none⟩) n cap) n xs := by
  obtain ⟨h1, h2, h3, ys, hr, hl⟩ := h
  refine ⟨h1, .inr ⟨g, cap, _, rfl, hb, hr, h2, h3, by simpa using hl, ?_⟩⟩
  simp [← h1]
theorem Own.of {base : Nat} {v : Value} (h : w.ownsRow base e size v n xs) (hv : v ≠ .slice none 0 0) : ∃ g cap, v = .slice (some ⟨g, 0, none⟩) n cap ∧ base ≤ g ∧ Own w g e size n cap xs := by
  obtain ⟨h1, h2 | ⟨g, cap, cur, rfl, hb, hr, hn, hm, hs, ht⟩⟩ := h
  · exact absurd h2.1 hv
  · refine ⟨g, cap, rfl, hb, h1, hn, hm, cur.toList.drop (n * size), ?_, ?_⟩
    · unfold Row
      rw [← ht, List.take_append_drop]
      simpa using hr
    · rw [← ht, List.take_append_drop]; simpa using hs
theorem Own.lt (h : Own w g e size n cap xs) : g < w.heap.size := by
  obtain ⟨_, _, _, ys, hr, _⟩ := h; exact hr.lt
theorem Own.cell (h : Own w g e size n cap xs) {k : Nat} (hk : k < n * size) : w.cell? ⟨g, k, none⟩ = xs[k]? := by
  obtain ⟨h1, _, _, ys, hr, _⟩ := h
  rw [hr.cell, List.getElem?_append_left (by omega)]
theorem Own.alloc (h : Own w g e size n cap xs) (o : Obj) : Own (w.alloc o) g e size n cap xs := by
  obtain ⟨h1, h2, h3, ys, hr, hl⟩ := h; exact ⟨h1, h2, h3, ys, hr.alloc o, hl⟩
theorem Own.drew (h : Own w g e size n cap xs) : Own w.drew g e size n cap xs := h
theorem Own.upd_ne (h : Own w g e size n cap xs) {b : Nat} (hne : g ≠ b) (L : List Value) : Own (upd w b L) g e size n cap xs := by
  obtain ⟨h1, h2, h3, ys, hr, hl⟩ := h; exact ⟨h1, h2, h3, ys, hr.upd_ne hne L, hl⟩
theorem Own.below {B : Nat} (h : Own w g e size n cap xs) (hb : Below B w w') (hlt : g < B) : Own w' g e size n cap xs := by
  obtain ⟨h1, h2, h3, ys, hr, hl⟩ := h; exact ⟨h1, h2, h3, ys, hr.below hb hlt, hl⟩
theorem Own.grown {row : Option Nat} (h : Own w g e size n cap xs) (hg : w.grownBy w' row) (hne : some g ≠ row) : Own w' g e size n cap xs := by
  obtain ⟨h1, h2, h3, ys, hr, hl⟩ := h
  exact ⟨h1, h2, h3, ys, by unfold Row; rw [hg.block g hr.lt hne]; exact hr, hl⟩
theorem Row.grown {row : Option Nat} {b : Nat} {e : TypeId} {L : List Value} (h : Row w b e L) (hg : w.grownBy w' row) (hne : some b ≠ row) : Row w' b e L := by
  unfold Row; rw [hg.block b h.lt hne]; exact h
/-- The last element dropped. -/
theorem Own.pop {last : List Value} (h : Own w g e size (n + 1) cap (xs ++ last)) (hx : xs.length = n * size) : Own w g e size n cap xs := by
  obtain ⟨h1, h2, h3, ys, hr, hl⟩ := h
  exact ⟨hx, by omega, h3, last ++ ys, by rw [← List.append_assoc]; exact hr, by rw [← List.append_assoc]; exact hl⟩
/-- A store into the slice. -/
theorem Own.st {t : TypeId} {m : Nat} (h : Own w g e size n cap xs) (o : Nat) (v : Value) (hn : (Yagv.prog.info? t).map (·.size) = some m)
    (hv : v.cells.size = m) (hl : o + m ≤ n * size) (h1 : ∀ u ∈ v.cells.toList, u.oneCell' = true) :
    ∃ w', Yahagw.st Yagv.prog t (.pointer (some ⟨g, o, none⟩)) v w = .ok () w' ∧ Own w' g e size n cap (xs.take o ++ v.cells.toList ++ xs.drop (o + m)) ∧ ∃ L, w' = upd w g L := by
  obtain ⟨hx, h2, h3, ys, hr, hy⟩ := h
  refine ⟨_, hr.st o v hn hv (by simp; omega) h1, ⟨?_, h2, h3, ys, ?_, ?_⟩, _, rfl⟩
  · simp; omega
  · have e1 : List.take o (xs ++ ys) ++ v.cells.toList ++ List.drop (o + m) (xs ++ ys) = xs.take o ++ v.cells.toList ++ xs.drop (o + m) ++ ys := by
      rw [List.take_append_of_le_length (by omega), List.drop_append_of_le_length (by omega)]
      simp
    rw [e1]
    exact hr.upd _
  · have : (xs.take o ++ v.cells.toList ++ xs.drop (o + m)).length = xs.length := by simp; omega
    rw [List.length_append, this, ← List.length_append]; exact hy
theorem Own.st1 {t : TypeId} (h : Own w g e size n cap xs) (o : Nat) (v : Value) (hn : (Yagv.prog.info? t).map (·.size) = some 1)
    (hv : v.oneCell' = true) (hl : o < n * size) :
    ∃ w', Yahagw.st Yagv.prog t (.pointer (some ⟨g, o, none⟩)) v w = .ok () w' ∧ Own w' g e size n cap (xs.set o v) ∧ ∃ L, w' = upd w g L := by
  have hc : v.cells = #[v] := by cases v <;> first | rfl | (simp [Value.oneCell'] at hv)
  have hx := h.1
  obtain ⟨w', h1, h2, h3⟩ := h.st o v hn (by rw [hc]; rfl) (by omega) (by rw [hc]; simpa using hv)
  refine ⟨w', h1, ?_, h3⟩
  rw [hc] at h2
  simp only [List.toList_toArray] at h2
  rw [set_eq (by omega)] at h2
  exact h2
theorem Own.ld {t : TypeId} {d : TypeDesc} {m : Nat} (h : Own w g e size n cap xs) (o : Nat) (hu : Yagv.prog.underlying t = some d) (hd : rowB d = true)
    (hn : (Yagv.prog.info? t).map (·.size) = some m) (hl : o + m ≤ n * size) :
    Yahagw.ld Yagv.prog t (.pointer (some ⟨g, o, none⟩)) w = .ok (.agg ((xs.drop o).take m).toArray) w := by
  obtain ⟨hx, h2, h3, ys, hr, hy⟩ := h
  rw [hr.ld o hu hd hn (by simp; omega), List.drop_append_of_le_length (by omega), List.take_append_of_le_length (by simp; omega)]

/-- 'append(s, x)'; what is appended lies at the head of a block of its own. -/
theorem Own.append {base t : Nat} {z : Value} {bytes b : Nat} {e' : TypeId} {cs : List Value} (h : Own w g e size n cap xs) (hb : base ≤ g) (ht : Yagv.prog.underlying t = some (.slice e))
    (hi : (Yagv.prog.info? e).map (fun i => (i.zero, i.size, i.bytes)) = some (some z, size, bytes)) (hz : z.cells.size = size) (hs : 0 < size)
    (hr : Row w b e' cs) (hcs : cs.length = size) (h1 : ∀ u ∈ cs, u.oneCell' = true) (hbytes : (n + 1) * bytes ≤ 140737488355328) (hn : n + 1 ≤ maxLen) :
    ∃ g' cap' w', ap Yagv.prog #[t, t] #[.slice (some ⟨g, 0, none⟩) n cap, .slice (some ⟨b, 0, none⟩) 1 1] w = .ok (.slice (some ⟨g', 0, none⟩) (n + 1) cap') w' ∧
      Own w' g' e size (n + 1) cap' (xs ++ cs) ∧ base ≤ g' ∧ w.grownBy w' (some g) := by
  obtain ⟨i, hi0, hz0, hs0, hb0⟩ := info_parts hi
  obtain ⟨v', w', h2, h3, h4, h5⟩ := run_append_own (P := Yagv.prog) w base t 0 e i z size bytes ht hi0 hz0 hs0 hb0 hz hs (.slice (some ⟨g, 0, none⟩) n cap) n xs (h.to hb) ⟨b, 0, none⟩ 1 1 cs (by omega)
    (fun j u hj => by rw [Addr.add_lit, Nat.zero_add, hr.cell]; exact hj) h1 hn hbytes (by have := h.lt; omega)
  have hne : v' ≠ .slice none 0 0 := fun hv => by have := h5.1 hv; simp at this
  obtain ⟨g', cap', rfl, hb', ho⟩ := Own.of h3 hne
  exact ⟨g', cap', w', h2, ho, hb', h4⟩
end own

/-! ### a value built, an element boxed -/
theorem fold_set (vs : List Value) : ∀ (k off : Nat) (cs : Array Value), off + k + vs.length ≤ cs.size →
    ((vs.zipIdx k).foldl (fun cs (p : Value × Nat) => cs.setIfInBounds (off + p.2) p.1) cs).toList = cs.toList.take (off + k) ++ vs ++ cs.toList.drop (off + k + vs.length) := by
  induction vs with
  | nil => intro k off cs h; simp
  | cons v vs ih =>
    intro k off cs h
    simp only [List.length_cons] at h
    simp only [List.zipIdx_cons, List.foldl_cons]
    rw [ih (k + 1) off _ (by simp; omega)]
    simp only [Array.toList_setIfInBounds, List.length_cons]
    have hlt : off + k < cs.toList.length := by simp; omega
    rw [List.set_eq_take_append_cons_drop, if_pos hlt]
    rw [show off + (k + 1) = (off + k) + 1 by omega, show off + k + 1 + vs.length = (off + k) + (vs.length + 1) by omega]
    have e1 : (List.take (off + k) cs.toList ++ v :: List.drop (off + k + 1) cs.toList).take (off + k + 1) = List.take (off + k) cs.toList ++ [v] := by
      rw [List.take_append]
      simp only [List.length_take, Nat.min_eq_left (Nat.le_of_lt hlt)]
      rw [List.take_of_length_le (by simp; omega)]
      simp
    have e2 : (List.take (off + k) cs.toList ++ v :: List.drop (off + k + 1) cs.toList).drop (off + k + (vs.length + 1)) = List.drop (off + k + (vs.length + 1)) cs.toList := by
      rw [List.drop_append]
      simp only [List.length_take, Nat.min_eq_left (Nat.le_of_lt hlt)]
      rw [List.drop_of_length_le (by simp; omega)]
      rw [show off + k + (vs.length + 1) - (off + k) = vs.length + 1 by omega]
      simp only [List.drop_succ_cons, List.nil_append, List.drop_drop]
      rw [show off + k + 1 + vs.length = off + k + (vs.length + 1) by omega]
    rw [e1, e2]
    simp
theorem bs1_of {t e size : Nat} {z : Value} (w : World) (v : Value) (ht : Yagv.prog.underlying t = some (.slice e)) (hi : (Yagv.prog.info? e).map (fun i => (i.zero, i.size)) = some (some z, size))
    (hv : v.cells.size = size) (h0 : 0 < size) (h1 : size ≤ 16777216) :
    bs Yagv.prog t 1 #[(0, v)] w = .ok (.slice (some ⟨w.heap.size, 0, none⟩) 1 1) (w.alloc (.cells v.cells e)) := by
  cases hq : Yagv.prog.info? e with
  | none => rw [hq] at hi; simp at hi
  | some i =>
    rw [hq] at hi
    simp at hi
    obtain ⟨hz, hs⟩ := hi
    subst hv
    have hne : ¬ v.cells.size = 0 := by omega
    have hbig : ¬ (16777216 < v.cells.size) := by omega
    have hf := fold_set v.cells.toList 0 0 ((Array.range v.cells.size).map (z.cells[· % z.cells.size]!)) (by simp)
    simp only [Nat.zero_add, Array.length_toList] at hf
    have hf2 : (v.cells.zipIdx.foldl (fun cs (p : Value × Nat) => cs.setIfInBounds p.2 p.1) ((Array.range v.cells.size).map (z.cells[· % z.cells.size]!))) = v.cells := by
      rw [← Array.foldl_toList, Array.toList_zipIdx]
      apply Array.ext'
      rw [hf]
      simp
    have hf3 : Array.foldl (fun cs (p : Value × Nat) => cs.setIfInBounds p.2 p.1) ((Array.range v.cells.size).map (z.cells[· % z.cells.size]!)) v.cells.zipIdx 0 v.cells.size = v.cells := by
      have : v.cells.zipIdx.size = v.cells.size := by simp
      rw [← this] at *
      simpa using hf2
    simp [bs, Instr.buildSlice, run_underlying ht, isize (t := e) (n := v.cells.size) (by rw [hq]; simp [hs]), hbig, hne, zeroValue, typeInfo, hq, hz, Instr.fill, hf3, newRow]
theorem bs0_of {t e size : Nat} (w : World) (ht : Yagv.prog.underlying t = some (.slice e)) (hi : (Yagv.prog.info? e).map (·.size) = some size) :
    bs Yagv.prog t 0 #[] w = .ok (.slice (some ⟨w.heap.size, 0, none⟩) 0 0) (w.alloc (.cells [].toArray e)) := by
  simp [bs, Instr.buildSlice, run_underlying ht, isize hi, Instr.fill, newRow, Array.range_zero']
theorem bs87_0 (w : World) : bs Yagv.prog 87 0 #[] w = .ok (.slice (some ⟨w.heap.size, 0, none⟩) 0 0) (w.alloc (.cells [].toArray 4)) := bs0_of w Yagv.underlying87 size4
theorem bs70_0 (w : World) : bs Yagv.prog 70 0 #[] w = .ok (.slice (some ⟨w.heap.size, 0, none⟩) 0 0) (w.alloc (.cells [].toArray 72)) := bs0_of w Yagv.underlying70 size72
theorem bs65_0 (w : World) : bs Yagv.prog 65 0 #[] w = .ok (.slice (some ⟨w.heap.size, 0, none⟩) 0 0) (w.alloc (.cells [].toArray 69)) := bs0_of w Yagv.underlying65 size69
theorem bs51_0 (w : World) : bs Yagv.prog 51 0 #[] w = .ok (.slice (some ⟨w.heap.size, 0, none⟩) 0 0) (w.alloc (.cells [].toArray 2)) := bs0_of w Yagv.underlying51 size2
theorem bs23_0 (w : World) : bs Yagv.prog 23 0 #[] w = .ok (.slice (some ⟨w.heap.size, 0, none⟩) 0 0) (w.alloc (.cells [].toArray 33)) := bs0_of w Yagv.underlying23 size33
theorem bs87_1 (w : World) (b : Bool) : bs Yagv.prog 87 1 #[(0, .bool b)] w = .ok (.slice (some ⟨w.heap.size, 0, none⟩) 1 1) (w.alloc (.cells [.bool b].toArray 4)) :=
  bs1_of (size := 1) (z := .bool false) w (.bool b) Yagv.underlying87 (by kernel_rfl) rfl (by omega) (by omega)
theorem bs70_1 (w : World) (x y z : Value) : bs Yagv.prog 70 1 #[(0, .agg [x, y, z].toArray)] w = .ok (.slice (some ⟨w.heap.size, 0, none⟩) 1 1) (w.alloc (.cells [x, y, z].toArray 72)) :=
  bs1_of (size := 3) (z := .agg #[.int .i64 0, .int .i64 0, .bool false]) w (.agg #[x, y, z]) Yagv.underlying70 (by kernel_rfl) rfl (by omega) (by omega)
theorem bs23_1 (w : World) (x y z : Value) : bs Yagv.prog 23 1 #[(0, .agg [x, y, z].toArray)] w = .ok (.slice (some ⟨w.heap.size, 0, none⟩) 1 1) (w.alloc (.cells [x, y, z].toArray 33)) :=
  bs1_of (size := 3) (z := .agg #[.int .i64 0, .int .i64 0, .int .i64 0]) w (.agg #[x, y, z]) Yagv.underlying23 (by kernel_rfl) rfl (by omega) (by omega)
theorem info4 : (Yagv.prog.info? 4).map (fun i => (i.zero, i.size, i.bytes)) = some (some (.bool false), 1, 1) := by kernel_rfl
theorem info72 : (Yagv.prog.info? 72).map (fun i => (i.zero, i.size, i.bytes)) = some (some (.agg #[.int .i64 0, .int .i64 0, .bool false]), 3, 24) := by kernel_rfl
theorem info33 : (Yagv.prog.info? 33).map (fun i => (i.zero, i.size, i.bytes)) = some (some (.agg #[.int .i64 0, .int .i64 0, .int .i64 0]), 3, 24) := by kernel_rfl
theorem info69 : (Yagv.prog.info? 69).map (fun i => (i.zero, i.size, i.bytes)) = some (some (.agg (List.replicate 514 (Value.int .i64 0) ++ [Value.bool false]).toArray), 515, 4120) := by kernel_rfl
theorem info3 : (Yagv.prog.info? 3).map (fun i => (i.zero, i.size, i.bytes)) = some (some (.int .i64 0), 1, 8) := by kernel_rfl
theorem info2 : (Yagv.prog.info? 2).map (fun i => (i.zero, i.size, i.bytes)) = some (some (.int .i64 0), 1, 8) := by kernel_rfl
theorem info51 : (Yagv.prog.info? 51).map (fun i => (i.zero, i.size, i.bytes)) = some (some (.slice none 0 0), 1, 24) := by kernel_rfl

theorem bd_of {t : TypeId} {w : World} (parts : Array (Nat × Value)) (cells : List Value) (h : Yagv.prog.built t parts.toList = some cells.toArray) : bd Yagv.prog t parts w = .ok (.agg cells.toArray) w :=
  run_build w t parts _ h
theorem bd33 (w : World) (x y z : Int) : bd Yagv.prog 33 #[(0, .int .i64 x), (1, .int .i64 y), (2, .int .i64 z)] w = .ok (.agg [.int .i64 x, .int .i64 y, .int .i64 z].toArray) w := bd_of _ _ (by kernel_rfl)
theorem bd33a (w : World) (x : Int) : bd Yagv.prog 33 #[(0, .int .i64 x)] w = .ok (.agg [.int .i64 x, .int .i64 0, .int .i64 0].toArray) w := bd_of _ _ (by kernel_rfl)
theorem bd33b (w : World) (x y : Int) : bd Yagv.prog 33 #[(0, .int .i64 x), (1, .int .i64 y)] w = .ok (.agg [.int .i64 x, .int .i64 y, .int .i64 0].toArray) w := bd_of _ _ (by kernel_rfl)
theorem bd72 (w : World) (x : Int) : bd Yagv.prog 72 #[(0, .int .i64 x)] w = .ok (.agg [.int .i64 x, .int .i64 0, .bool false].toArray) w := bd_of _ _ (by kernel_rfl)
theorem bd26 (w : World) (o : Bool) (k p h c d : Int) : bd Yagv.prog 26 #[(0, .bool o), (1, .int .i64 k), (2, .int .i64 p), (3, .int .i64 h), (4, .int .i64 c), (5, .int .i64 d)] w =
    .ok (.agg [.bool o, .int .i64 k, .int .i64 p, .int .i64 h, .int .i64 c, .int .i64 d].toArray) w := bd_of _ _ (by kernel_rfl)
theorem bd26a (w : World) (o : Bool) (k p h : Int) : bd Yagv.prog 26 #[(0, .bool o), (1, .int .i64 k), (2, .int .i64 p), (3, .int .i64 h)] w =
    .ok (.agg [.bool o, .int .i64 k, .int .i64 p, .int .i64 h, .int .i64 0, .int .i64 0].toArray) w := bd_of _ _ (by kernel_rfl)
theorem bd40 (w : World) (o : Bool) (k p h c d : Int) : bd Yagv.prog 40 #[(0, .bool o), (1, .int .i64 k), (2, .int .i64 p), (3, .int .i64 h), (4, .int .i64 c), (5, .int .i64 d)] w =
    .ok (.agg [.bool o, .int .i64 k, .int .i64 p, .int .i64 h, .int .i64 c, .int .i64 d].toArray) w := bd_of _ _ (by kernel_rfl)

/-! ### a program: a slice of operations that is only read -/
def opCells (o : IOp) : List Value := [.int .i64 o.c, .int .i64 o.a, .int .i64 o.b]
def OpsAt (w : World) (v : Option Addr) (L : List IOp) : Prop :=
  ∀ i o, L[i]? = some o → ∃ x, v = some x ∧ ∀ j u, (opCells o)[j]? = some u → w.cell? (x.add (i * 3 + j)) = some u
theorem OpsAt.below {w w' : World} {v : Option Addr} {L : List IOp} {B : Nat} (h : OpsAt w v L) (hb : Below B w w') (hB : w.heap.size ≤ B) : OpsAt w' v L := by
  intro i o ho
  obtain ⟨x, hx, hc⟩ := h i o ho
  refine ⟨x, hx, fun j u hu => ?_⟩
  have := hc j u hu
  rw [hb.cell (Nat.lt_of_lt_of_le (World.block_lt_of_cell? _ _ this) hB)]
  exact this
theorem OpsAt.below' {w w' : World} {v : Option Addr} {L : List IOp} (h : OpsAt w v L) (hb : Below w.heap.size w w') : OpsAt w' v L := h.below hb (Nat.le_refl _)
/-- the k-th operation, read whole -/
theorem OpsAt.ld {w : World} {x : Addr} {L : List IOp} (h : OpsAt w (some x) L) {k : Nat} {o : IOp} (hk : L[k]? = some o) :
    Yahagw.ld Yagv.prog 33 (.pointer (some (x.add (k * 3)))) w = .ok (.agg [.int .i64 o.c, .int .i64 o.a, .int .i64 o.b].toArray) w := by
  obtain ⟨x', hx, hc⟩ := h k o hk
  cases hx
  exact ld_agg _ w (opCells o) Yagv.underlying33 rfl size33 rfl (fun j v hv => by rw [Addr.add_add]; exact hc j v hv)
theorem OpsAt.code {w : World} {x : Addr} {L : List IOp} (h : OpsAt w (some x) L) {k : Nat} {o : IOp} (hk : L[k]? = some o) : w.cell? (x.add (k * 3)) = some (.int .i64 o.c) := by
  obtain ⟨x', hx, hc⟩ := h k o hk
  cases hx
  exact hc 0 _ rfl
theorem OpsAt.some {w : World} {v : Option Addr} {L : List IOp} (h : OpsAt w v L) {k : Nat} (hk : k < L.length) : ∃ x, v = some x := by
  obtain ⟨x, hx, _⟩ := h k L[k] (List.getElem?_eq_getElem hk); exact ⟨x, hx⟩
/-- a new box that has just been filled -/
theorem st_new33 {w : World} (z1 z2 z3 x y z : Value) (h : ∀ u ∈ [x, y, z], u.oneCell' = true) :
    st Yagv.prog 33 (.pointer (some ⟨w.heap.size, 0, none⟩)) (.agg [x, y, z].toArray) (w.alloc (.cells [z1, z2, z3].toArray 33)) = .ok () (w.alloc (.cells [x, y, z].toArray 33)) := by
  have hr := (Row.new w 33 [z1, z2, z3]).st 0 (.agg [x, y, z].toArray) size33 rfl (by simp) h
  rw [hr]
  unfold upd
  simp only [List.take_zero, List.nil_append, List.length_cons, List.length_nil, Nat.zero_add, List.drop_succ_cons, List.drop_zero, List.append_nil, Value.cells]
  rw [World.setRow_alloc_new]
theorem st_op {w : World} (z1 z2 z3 : Value) (x y z : Int) :
    st Yagv.prog 33 (.pointer (some ⟨w.heap.size, 0, none⟩)) (.agg [.int .i64 x, .int .i64 y, .int .i64 z].toArray) (w.alloc (.cells [z1, z2, z3].toArray 33)) = .ok () (w.alloc (.cells [.int .i64 x, .int .i64 y, .int .i64 z].toArray 33)) :=
  st_new33 z1 z2 z3 _ _ _ (by simp [Value.oneCell'])
end Go.Proofs.Yahagw
