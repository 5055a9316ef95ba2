/-
  Reports in memory; laws.fromReport.
-/
import Derived.Test.YahagwModel
set_option linter.unusedSimpArgs false
set_option linter.unusedVariables false
namespace Go.Proofs.Yahagw
open Go.RowKit

def repL (r : Rep) : List Value := [.bool r.ok, .int .i64 r.kind, .int .i64 r.pos, .int .i64 r.handle, .int .i64 (r.paths : Int), .int .i64 (r.clean : Int)]
theorem repR_eq (r : Rep) : repR r = .agg (repL r).toArray := rfl
theorem bn_neqR40 (w : World) (x y : Operand) (r : Rep) : bn Yagv.prog .neq 40 x y (repR r) (repR r) w = .ok (.bool false) w := bn_neq40 ..
theorem bn_neqR26 (w : World) (x y : Operand) (r : Rep) : bn Yagv.prog .neq 26 x y (repR r) (repR r) w = .ok (.bool false) w := bn_neq26 ..
theorem bn_eqlR26 (w : World) (x y : Operand) (r : Rep) : bn Yagv.prog .eql 26 x y (repR r) (repR r) w = .ok (.bool true) w := bn_eql26 ..
theorem st_new {t : TypeId} {n : Nat} (w : World) (Z L : List Value) (e : TypeId) (hs : (Yagv.prog.info? t).map (·.size) = some n) (hz : Z.length = n) (hl : L.length = n) (h1 : ∀ u ∈ L, u.oneCell' = true) :
    st Yagv.prog t (.pointer (some ⟨w.heap.size, 0, none⟩)) (.agg L.toArray) (w.alloc (.cells Z.toArray e)) = .ok () (upd (w.alloc (.cells Z.toArray e)) w.heap.size L) := by
  have := (Row.new w e Z).st (t := t) 0 (.agg L.toArray) hs (by simpa [Value.cells] using hl) (by omega) (by simpa [Value.cells] using h1)
  rw [this]
  simp only [List.take_zero, List.nil_append, Value.cells, Nat.zero_add, List.drop_of_length_le (by omega : Z.length ≤ n), List.append_nil]
theorem repL_one (r : Rep) : ∀ u ∈ repL r, u.oneCell' = true := by simp [repL, Value.oneCell']
/-- a report put into a new variable -/
theorem st_rep26 (w : World) (r : Rep) : st Yagv.prog 26 (.pointer (some ⟨w.heap.size, 0, none⟩)) (repR r) (w.alloc (.cells [Value.bool false, Value.int .i64 0, Value.int .i64 0, Value.int .i64 0, Value.int .i64 0, Value.int .i64 0].toArray 26)) = .ok () (upd (w.alloc (.cells [Value.bool false, Value.int .i64 0, Value.int .i64 0, Value.int .i64 0, Value.int .i64 0, Value.int .i64 0].toArray 26)) w.heap.size (repL r)) :=
  st_new w [Value.bool false, Value.int .i64 0, Value.int .i64 0, Value.int .i64 0, Value.int .i64 0, Value.int .i64 0] (repL r) 26 size26 rfl rfl (repL_one r)
theorem st_rep40 (w : World) (r : Rep) : st Yagv.prog 40 (.pointer (some ⟨w.heap.size, 0, none⟩)) (repR r) (w.alloc (.cells [Value.bool false, Value.int .i64 0, Value.int .i64 0, Value.int .i64 0, Value.int .i64 0, Value.int .i64 0].toArray 40)) = .ok () (upd (w.alloc (.cells [Value.bool false, Value.int .i64 0, Value.int .i64 0, Value.int .i64 0, Value.int .i64 0, Value.int .i64 0].toArray 40)) w.heap.size (repL r)) :=
  st_new w [Value.bool false, Value.int .i64 0, Value.int .i64 0, Value.int .i64 0, Value.int .i64 0, Value.int .i64 0] (repL r) 40 size40 rfl rfl (repL_one r)
theorem row_rep26 (w : World) (r : Rep) : Row (upd (w.alloc (.cells [Value.bool false, Value.int .i64 0, Value.int .i64 0, Value.int .i64 0, Value.int .i64 0, Value.int .i64 0].toArray 26)) w.heap.size (repL r)) w.heap.size 26 (repL r) := (Row.new w 26 [Value.bool false, Value.int .i64 0, Value.int .i64 0, Value.int .i64 0, Value.int .i64 0, Value.int .i64 0]).upd _
theorem row_rep40 (w : World) (r : Rep) : Row (upd (w.alloc (.cells [Value.bool false, Value.int .i64 0, Value.int .i64 0, Value.int .i64 0, Value.int .i64 0, Value.int .i64 0].toArray 40)) w.heap.size (repL r)) w.heap.size 40 (repL r) := (Row.new w 40 [Value.bool false, Value.int .i64 0, Value.int .i64 0, Value.int .i64 0, Value.int .i64 0, Value.int .i64 0]).upd _
theorem al26z (w : World) : al Yagv.prog 26 w = .ok (.pointer (some ⟨w.heap.size, 0, none⟩)) (w.alloc (.cells [Value.bool false, Value.int .i64 0, Value.int .i64 0, Value.int .i64 0, Value.int .i64 0, Value.int .i64 0].toArray 26)) := al26 w
theorem al40z (w : World) : al Yagv.prog 40 w = .ok (.pointer (some ⟨w.heap.size, 0, none⟩)) (w.alloc (.cells [Value.bool false, Value.int .i64 0, Value.int .i64 0, Value.int .i64 0, Value.int .i64 0, Value.int .i64 0].toArray 40)) := al40 w
theorem Below.new {B : Nat} {a w : World} (h : Below B a w) (hB : B ≤ w.heap.size) (o : Obj) (L : List Value) : Below B a (Yahagw.upd (w.alloc o) w.heap.size L) := Below.upd (h.alloc hB o) hB L
theorem Row.ldR26 {w : World} {b : Nat} {e : TypeId} {r : Rep} (h : Row w b e (repL r)) : Yahagw.ld Yagv.prog 26 (.pointer (some ⟨b, 0, none⟩)) w = .ok (repR r) w := by
  have := h.ld (t := 26) 0 Yagv.underlying26 rfl size26 (by simp [repL])
  rw [this]; rfl
theorem Row.ldR40 {w : World} {b : Nat} {e : TypeId} {r : Rep} (h : Row w b e (repL r)) : Yahagw.ld Yagv.prog 40 (.pointer (some ⟨b, 0, none⟩)) w = .ok (repR r) w := by
  have := h.ld (t := 40) 0 Yagv.underlying40 rfl size40 (by simp [repL])
  rw [this]; rfl
theorem Row.rep {w : World} {b : Nat} {e : TypeId} {r : Rep} (h : Row w b e (repL r)) : w.cell? ⟨b, 0, none⟩ = some (.bool r.ok) ∧ w.cell? ⟨b, 1, none⟩ = some (.int .i64 r.kind) ∧ w.cell? ⟨b, 2, none⟩ = some (.int .i64 r.pos) ∧
    w.cell? ⟨b, 3, none⟩ = some (.int .i64 r.handle) ∧ w.cell? ⟨b, 4, none⟩ = some (.int .i64 (r.paths : Int)) ∧ w.cell? ⟨b, 5, none⟩ = some (.int .i64 (r.clean : Int)) :=
  ⟨h.cell 0, h.cell 1, h.cell 2, h.cell 3, h.cell 4, h.cell 5⟩
theorem bx26 (w : World) (r : Rep) : bx Yagv.prog 26 (repR r) w = .ok (.pointer (some ⟨w.heap.size, 0, none⟩)) (w.alloc (.cells (repL r).toArray 26)) := by
  simp [bx, Instr.box, newVar, newRow, Value.cells, repR_eq]
set_option maxRecDepth 20000 in
theorem fromReport_k (w : World) (r : Rep) {R : Value → World → Prop} (hR : ∀ w', Below w.heap.size w w' → R (repR r) w') : CN Yagv.prog 31 #[repR r] w R := by
  refine enterM _ Yagv.func31 rfl Yagv.ntmps31 (by simp) ?_
  intro F hargs
  have h0 : F 0 = repR r := hargs 0 _ rfl
  clear hargs
  have hr := (Row.new w 26 (repL r)).alloc (.cells [Value.bool false, Value.int .i64 0, Value.int .i64 0, Value.int .i64 0, Value.int .i64 0, Value.int .i64 0].toArray 40)
  obtain ⟨hc0, hc1, hc2, hc3, hc4, hc5⟩ := hr.rep
  have hal := al40z (w.alloc (.cells (repL r).toArray 26))
  have hst := st_rep40 (w.alloc (.cells (repL r).toArray 26)) r
  have hbd := bd40 ((w.alloc (.cells (repL r).toArray 26)).alloc (.cells [Value.bool false, Value.int .i64 0, Value.int .i64 0, Value.int .i64 0, Value.int .i64 0, Value.int .i64 0].toArray 40)) r.ok r.kind r.pos r.handle r.paths r.clean
  change bd _ _ _ _ = .ok (repR r) _ at hbd
  have hB : Below w.heap.size w (upd ((w.alloc (.cells (repL r).toArray 26)).alloc (.cells [Value.bool false, Value.int .i64 0, Value.int .i64 0, Value.int .i64 0, Value.int .i64 0, Value.int .i64 0].toArray 40)) (w.alloc (.cells (repL r).toArray 26)).heap.size (repL r)) :=
    Below.new ((Below.refl _ _).alloc (Nat.le_refl _) _) (by simp) _ _
  have hrow := row_rep40 (w.alloc (.cells (repL r).toArray 26)) r
  repeat (first | (with_reducible refine wp_sreg (fun K hK => ?_); simp only [wpN_nil, wpN_move, wpN_assign, wpN_bin, wpN_un, wpN_cv, wpN_pick, wpN_al, wpN_bx, wpN_bd, wpN_bs, wpN_ld, wpN_st, wpN_fa, wpN_fl, wpN_ix, wpN_mk, wpN_sl, wpN_ex, wpN_len, wpN_append, wpN_gt, wpN_gf, cont_ok, contU_ok, ev_const, mk_put, mk_ev, fup_same, fup_ne, put_none, gdAt_some, gd_t, gd_f, gd_undef, nthDst_zero, nthDst_succ, bn_inc, bn_dec, bn_eql, bn_neq, bn_lss, bn_leq, bn_gtr, bn_geq, pk_bool, un_not, cv_uint, ex2_0, ex2_1, ex3_0, ex3_1, ex3_2, ex4_0, ex4_1, ex4_2, ex4_3, List.map_toArray, List.map_cons, List.map_nil, Option.map_some, Option.map_none, decide_true, decide_false, Bool.not_true, Bool.not_false, cond_true, cond_false, Bool.false_eq_true, if_true, if_false, reduceIte, beq_self_eq_true, Nat.reduceBEq, Nat.reduceLT, Nat.reduceAdd, Nat.reduceSub, Nat.reduceEqDiff, Nat.reduceLeDiff, Nat.reduceMul, Int.reduceBEq, Int.reduceBNe, Int.reduceLT, Int.reduceLE, Bool.true_and, Bool.and_true, Bool.false_and, Bool.and_false, ix22, ix23, ix39, ix47, ix50, ix51, ix65, ix70, ix87, ix62, ix62_0, ix36, ix84, ln22, ln23, ln39, ln50, ln51, ln65, ln70, ln87, ld2, ld3, ld4, ld5, ld22, ld23, ld47, ld51, ofC_some, fa26_0, fa26_1, fa26_2, fa26_3, fa26_4, fa26_5, fa33_0, fa33_1, fa33_2, fa54_0, fa54_1, fa54_2, fa54_3, fa54_4, fa54_5, fa61_0, fa61_1, fa61_2, fa61_3, fa64_0, fa64_1, fa69_0, fa69_1, fa69_2, fa72_0, fa72_1, fa72_2, fa79_0, fa79_1, fa79_2, fa81_0, fa81_1, fa81_2, fa81_3, fa81_4, Addr.add_lit, Addr.add_zero', Nat.zero_add, Nat.add_zero, al26, al40, al33, al54, al61, st_op, World.cell?_alloc_new, List.getElem?_toArray, List.getElem?_cons_zero, List.getElem?_cons_succ, h0, bx26, hc0, hc1, hc2, hc3, hc4, hc5, hbd, hst]; refine hK _ _ ?_; clear hK K) | (with_reducible refine wp_reg (fun K hK => ?_); simp only [wpN_nil, wpN_move, wpN_assign, wpN_bin, wpN_un, wpN_cv, wpN_pick, wpN_al, wpN_bx, wpN_bd, wpN_bs, wpN_ld, wpN_st, wpN_fa, wpN_fl, wpN_ix, wpN_mk, wpN_sl, wpN_ex, wpN_len, wpN_append, wpN_gt, wpN_gf, cont_ok, contU_ok, ev_const, mk_put, mk_ev, fup_same, fup_ne, put_none, gdAt_some, gd_t, gd_f, gd_undef, nthDst_zero, nthDst_succ, bn_inc, bn_dec, bn_eql, bn_neq, bn_lss, bn_leq, bn_gtr, bn_geq, pk_bool, un_not, cv_uint, ex2_0, ex2_1, ex3_0, ex3_1, ex3_2, ex4_0, ex4_1, ex4_2, ex4_3, List.map_toArray, List.map_cons, List.map_nil, Option.map_some, Option.map_none, decide_true, decide_false, Bool.not_true, Bool.not_false, cond_true, cond_false, Bool.false_eq_true, if_true, if_false, reduceIte, beq_self_eq_true, Nat.reduceBEq, Nat.reduceLT, Nat.reduceAdd, Nat.reduceSub, Nat.reduceEqDiff, Nat.reduceLeDiff, Nat.reduceMul, Int.reduceBEq, Int.reduceBNe, Int.reduceLT, Int.reduceLE, Bool.true_and, Bool.and_true, Bool.false_and, Bool.and_false, ix22, ix23, ix39, ix47, ix50, ix51, ix65, ix70, ix87, ix62, ix62_0, ix36, ix84, ln22, ln23, ln39, ln50, ln51, ln65, ln70, ln87, ld2, ld3, ld4, ld5, ld22, ld23, ld47, ld51, ofC_some, fa26_0, fa26_1, fa26_2, fa26_3, fa26_4, fa26_5, fa33_0, fa33_1, fa33_2, fa54_0, fa54_1, fa54_2, fa54_3, fa54_4, fa54_5, fa61_0, fa61_1, fa61_2, fa61_3, fa64_0, fa64_1, fa69_0, fa69_1, fa69_2, fa72_0, fa72_1, fa72_2, fa79_0, fa79_1, fa79_2, fa81_0, fa81_1, fa81_2, fa81_3, fa81_4, Addr.add_lit, Addr.add_zero', Nat.zero_add, Nat.add_zero, al26, al40, al33, al54, al61, st_op, World.cell?_alloc_new, List.getElem?_toArray, List.getElem?_cons_zero, List.getElem?_cons_succ, h0, bx26, hc0, hc1, hc2, hc3, hc4, hc5, hbd, hst]; refine hK _ _ ?_; clear hK K) | (with_reducible refine wp_seq ?_) | (with_reducible refine wp_block ?_) | (with_reducible refine wp_cond_true ?_ ?_; focus (simp only [ev_const, mk_put, mk_ev, fup_same, fup_ne, mk_df, put_none, Nat.reduceBEq, Nat.reduceLT, decide_true, decide_false, h0, bx26, hc0, hc1, hc2, hc3, hc4, hc5, hbd, hst]; done)) | (with_reducible refine wp_cond_false ?_ ?_; focus (simp only [ev_const, mk_put, mk_ev, fup_same, fup_ne, mk_df, put_none, Nat.reduceBEq, Nat.reduceLT, decide_true, decide_false, h0, bx26, hc0, hc1, hc2, hc3, hc4, hc5, hbd, hst]; done)) | (with_reducible refine wp_skip ?_) | (with_reducible refine wp_exit ?_) | (with_reducible refine wp_ret ?_) | (with_reducible refine thenN ?_) | (with_reducible refine thenX ?_) | (with_reducible refine thenR ?_) | (with_reducible refine blkN ?_) | (with_reducible refine blkX ?_) | (with_reducible refine blkY rfl ?_) | (with_reducible refine blkR ?_))
  exact retC Yagv.results31 (by simp only [ev_const, mk_put, mk_ev, fup_same, fup_ne, mk_df, put_none, Nat.reduceBEq, Nat.reduceLT, decide_true, decide_false]) (by simp only [ev_const, mk_put, mk_ev, fup_same, fup_ne, mk_df, put_none, Nat.reduceBEq, Nat.reduceLT, decide_true, decide_false]) hrow Yagv.underlying40 rfl (by rw [size40]; rfl) (hR _ hB)
end Go.Proofs.Yahagw
