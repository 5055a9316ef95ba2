/-
  '==' and '!=' on bools and on reports.
-/
import Derived.Test.YahagwMk
set_option linter.unusedSimpArgs false
set_option linter.unusedVariables false
namespace Go.Proofs.Yahagw

theorem bn_neqb (w : World) (x y : Operand) (a b : Bool) : bn Yagv.prog .neq 4 x y (.bool a) (.bool b) w = .ok (.bool (a != b)) w := by
  have h := run_equalIn_bool' (P := Yagv.prog) w 9999 4 a b Yagv.underlying4
  simp [bn, eqGuard_at_bool, binOp, Op.equal, Op.maxDepth, h, bne]
theorem bn_eqlb (w : World) (x y : Operand) (a b : Bool) : bn Yagv.prog .eql 4 x y (.bool a) (.bool b) w = .ok (.bool (a == b)) w := by
  have h := run_equalIn_bool' (P := Yagv.prog) w 9999 4 a b Yagv.underlying4
  simp [bn, eqGuard_at_bool, binOp, Op.equal, Op.maxDepth, h]
def repV (o : Bool) (k p h c d : Int) : Value := .agg [.bool o, .int .i64 k, .int .i64 p, .int .i64 h, .int .i64 c, .int .i64 d].toArray
theorem eqFields_refl (w : World) (o : Bool) (k p h c d : Int) (t : TypeId) (hu : Yagv.prog.underlying t = Yagv.prog.underlying 26) (hp : Yagv.prog.stoodInHeld t = false) :
    (Op.equalIn 10000 t (repV o k p h c d) (repV o k p h c d)).run Yagv.prog w = .ok true w := by
  have hf : Yagv.prog.underlying t = some (.struct (Yagv.prog.fieldsOf t)) := by
    unfold Program.fieldsOf; rw [hu, Yagv.underlying26]
  have hfs : (Yagv.prog.fieldsOf t) = (Yagv.prog.fieldsOf 26) := by unfold Program.fieldsOf; rw [hu]
  unfold repV
  rw [run_equalIn_struct (P := Yagv.prog) w 9999 t _ _ hf hp, hfs]
  simp [Program.fieldsOf, Yagv.underlying26, Op.eqFields, part, isAgg, run_underlying Yagv.underlying4, run_underlying Yagv.underlying3, run_underlying Yagv.underlying2,
    run_equalIn_bool' (P := Yagv.prog) _ 9998 4 _ _ Yagv.underlying4, run_equalIn_int (P := Yagv.prog) _ 9998 3 .i64 _ _ _ Yagv.underlying3, run_equalIn_int (P := Yagv.prog) _ 9998 2 .i64 _ _ _ Yagv.underlying2]
theorem bn_eql26 (w : World) (x y : Operand) (o : Bool) (k p h c d : Int) : bn Yagv.prog .eql 26 x y (repV o k p h c d) (repV o k p h c d) w = .ok (.bool true) w := by
  have hE := eqFields_refl w o k p h c d 26 rfl (by kernel_rfl)
  unfold repV at hE ⊢
  simp [bn, run_eqGuard_agg (P := Yagv.prog) w .eql 26 x y _ _ (by kernel_rfl), run_eql_struct, hE]
theorem bn_neq26 (w : World) (x y : Operand) (o : Bool) (k p h c d : Int) : bn Yagv.prog .neq 26 x y (repV o k p h c d) (repV o k p h c d) w = .ok (.bool false) w := by
  have hE := eqFields_refl w o k p h c d 26 rfl (by kernel_rfl)
  unfold repV at hE ⊢
  simp [bn, run_eqGuard_agg (P := Yagv.prog) w .neq 26 x y _ _ (by kernel_rfl), run_neq_struct, hE]
theorem bn_neq40 (w : World) (x y : Operand) (o : Bool) (k p h c d : Int) : bn Yagv.prog .neq 40 x y (repV o k p h c d) (repV o k p h c d) w = .ok (.bool false) w := by
  have hE := eqFields_refl w o k p h c d 40 (by rw [Yagv.underlying40, Yagv.underlying26]) (by kernel_rfl)
  unfold repV at hE ⊢
  simp [bn, run_eqGuard_agg (P := Yagv.prog) w .neq 40 x y _ _ (by kernel_rfl), run_neq_struct, hE]
end Go.Proofs.Yahagw
