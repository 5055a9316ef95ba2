/-
  What each kind of operation of this program gives: one law each, for the walk's simp.
-/
import Derived.Test.YahagwBase
import Derived.Deep.WholeRow
set_option linter.unusedSimpArgs false
set_option linter.unusedVariables false
namespace Go.Proofs.Yahagw
open Go.RowKit

/-! ### numbers -/
def Sm (n : Nat) : Prop := n < 9223372036854775808
theorem i64_nat {n : Nat} (h : Sm n) : IntKind.i64.wrap (n : Int) = n := IntWalk.i64_in _ (by unfold Sm at h; omega)

section num
variable {P : Program} {w : World} {t : TypeId} {x y : Operand} {k : IntKind}
theorem bn_add (m n : Int) : bn P .add t x y (.int k m) (.int k n) w = .ok (.int k (k.wrap (m + n))) w := by
  simp [bn, eqGuard_add, binOp_add, Op.intArith]
theorem bn_sub (m n : Int) : bn P .sub t x y (.int k m) (.int k n) w = .ok (.int k (k.wrap (m - n))) w := by
  simp [bn, eqGuard_sub, binOp_sub, Op.intArith]
theorem bn_mul (m n : Int) : bn P .mul t x y (.int k m) (.int k n) w = .ok (.int k (k.wrap (m * n))) w := by
  simp [bn, eqGuard_mul, binOp_mul, Op.intArith]
theorem bn_quo (m n : Int) (h : (n == 0) = false) : bn P .quo t x y (.int k m) (.int k n) w = .ok (.int k (k.wrap (m.tdiv n))) w := by
  have : ¬ n = 0 := by simpa using h
  simp [bn, eqGuard_quo, binOp_quo, Op.intDiv, this]
theorem bn_rem (m n : Int) (h : (n == 0) = false) : bn P .rem t x y (.int k m) (.int k n) w = .ok (.int k (m.tmod n)) w := by
  have : ¬ n = 0 := by simpa using h
  simp [bn, eqGuard_rem, binOp_rem, Op.intDiv, this]
theorem bn_and (m n : Int) : bn P .and t x y (.int k m) (.int k n) w = .ok (.int k (bits .and k m n)) w := by
  simp [bn, eqGuard_and, binOp_and, intBits_and]
theorem bn_or (m n : Int) : bn P .or t x y (.int k m) (.int k n) w = .ok (.int k (bits .or k m n)) w := by
  simp [bn, eqGuard_or, binOp_or, intBits_or]
theorem bn_andNot (m n : Int) : bn P .andNot t x y (.int k m) (.int k n) w = .ok (.int k (bits .andNot k m n)) w := by
  simp [bn, eqGuard_andNot, binOp_andNot, intBits_andNot]
theorem bn_eql (m n : Int) : bn P .eql t x y (.int k m) (.int k n) w = .ok (.bool (m == n)) w := by
  simp [bn, eqGuard_at_int, binOp_eql]
theorem bn_neq (m n : Int) : bn P .neq t x y (.int k m) (.int k n) w = .ok (.bool (m != n)) w := by
  simp [bn, eqGuard_at_int, binOp_neq]
theorem bn_lss (m n : Int) : bn P .lss t x y (.int k m) (.int k n) w = .ok (.bool (decide (m < n))) w := by
  simp [bn, eqGuard_lss, binOp_lss]
theorem bn_leq (m n : Int) : bn P .leq t x y (.int k m) (.int k n) w = .ok (.bool (decide (m ≤ n))) w := by
  simp [bn, eqGuard_leq, binOp_leq]
theorem bn_gtr (m n : Int) : bn P .gtr t x y (.int k m) (.int k n) w = .ok (.bool (decide (n < m))) w := by
  simp [bn, eqGuard_gtr, binOp_gtr]
theorem bn_geq (m n : Int) : bn P .geq t x y (.int k m) (.int k n) w = .ok (.bool (decide (n ≤ m))) w := by
  simp [bn, eqGuard_geq, binOp_geq]
/-- 'i + 1', 'i - 1' on numbers that are known to be small. -/
theorem bn_inc (m : Nat) (h : Sm (m + 1)) : bn P .add t x y (.int .i64 (m : Int)) (.int .i64 1) w = .ok (.int .i64 ((m + 1 : Nat) : Int)) w := by
  rw [bn_add]
  have := i64_nat h
  rw [show ((m : Int) + 1) = ((m + 1 : Nat) : Int) by omega, this]
theorem bn_dec (m : Nat) (h : Sm (m + 1)) : bn P .sub t x y (.int .i64 ((m + 1 : Nat) : Int)) (.int .i64 1) w = .ok (.int .i64 (m : Int)) w := by
  rw [bn_sub, show (((m + 1 : Nat) : Int) - 1) = (m : Int) by omega, i64_nat]
  unfold Sm at *; omega
/-- Shifts by a count of an unsigned kind never panic. -/
def shlV (k : IntKind) (m : Int) (n : Int) : Int := k.wrap (m * 2 ^ (min n.toNat k.bits))
def shrV (k : IntKind) (m : Int) (n : Int) : Int := m.fdiv (2 ^ (min n.toNat k.bits))
theorem bn_shl_nat (yk : IntKind) (m : Int) (n : Nat) : bn P .shl t x y (.int k m) (.int yk (n : Int)) w = .ok (.int k (shlV k m n)) w := by
  have : ¬ ((n : Int) < 0) := by omega
  simp [bn, eqGuard_shl, binOp_shl, Op.shift, shlV, this]
theorem bn_shr_nat (yk : IntKind) (m : Int) (n : Nat) : bn P .shr t x y (.int k m) (.int yk (n : Int)) w = .ok (.int k (shrV k m n)) w := by
  have : ¬ ((n : Int) < 0) := by omega
  simp [bn, eqGuard_shr, binOp_shr, Op.shift, shrV, this]
theorem shlV_pow (n : Nat) (h : n < 8) : shlV .i64 1 (n : Int) = ((2 ^ n : Nat) : Int) := by
  have : n = 0 ∨ n = 1 ∨ n = 2 ∨ n = 3 ∨ n = 4 ∨ n = 5 ∨ n = 6 ∨ n = 7 := by omega
  rcases this with rfl | rfl | rfl | rfl | rfl | rfl | rfl | rfl <;> decide
theorem ex2_0 (a b : Value) : ex P (.tuple [a, b].toArray) 0 w = .ok a w := rfl
theorem ex2_1 (a b : Value) : ex P (.tuple [a, b].toArray) 1 w = .ok b w := rfl
theorem ex3_0 (a b c : Value) : ex P (.tuple [a, b, c].toArray) 0 w = .ok a w := rfl
theorem ex3_1 (a b c : Value) : ex P (.tuple [a, b, c].toArray) 1 w = .ok b w := rfl
theorem ex3_2 (a b c : Value) : ex P (.tuple [a, b, c].toArray) 2 w = .ok c w := rfl
theorem ex4_0 (a b c d : Value) : ex P (.tuple [a, b, c, d].toArray) 0 w = .ok a w := rfl
theorem ex4_1 (a b c d : Value) : ex P (.tuple [a, b, c, d].toArray) 1 w = .ok b w := rfl
theorem ex4_2 (a b c d : Value) : ex P (.tuple [a, b, c, d].toArray) 2 w = .ok c w := rfl
theorem ex4_3 (a b c d : Value) : ex P (.tuple [a, b, c, d].toArray) 3 w = .ok d w := rfl
theorem un_not (b : Bool) : un P .not (.bool b) w = .ok (.bool (!b)) w := rfl
end num

section conv
variable {w : World}
theorem cv_byte (n : Nat) (h : (decide (n < 256)) = true) : cv Yagv.prog 5 3 (.int .u8 (n : Int)) w = .ok (.int .i64 (n : Int)) w := by
  have hn : n < 256 := by simpa using h
  have := run_convert_int (P := Yagv.prog) w 5 3 .u8 (n : Int) (by rw [Yagv.underlying5]; rfl) (by simp [Program.intKind, Yagv.underlying3])
  unfold cv
  rw [this]
  simp only [Program.intKind, Yagv.underlying3]
  rw [i64_nat (by unfold Sm; omega)]
theorem cv_uint (n : Nat) (h : Sm n) : cv Yagv.prog 3 66 (.int .i64 (n : Int)) w = .ok (.int .u64 (n : Int)) w := by
  have := run_convert_int (P := Yagv.prog) w 3 66 .i64 (n : Int) (by rw [Yagv.underlying3]; rfl) (by simp [Program.intKind, Yagv.underlying66])
  unfold cv
  rw [this]
  simp only [Program.intKind, Yagv.underlying66]
  rw [IntWalk.u64_in _ (by unfold Sm at h; omega)]
theorem u64_wrap_nat (n : Int) : ∃ m : Nat, IntKind.u64.wrap n = (m : Int) := by
  have h : 0 ≤ IntKind.u64.wrap n := by
    simp only [IntKind.wrap, IntKind.bits, IntKind.signed]
    simp
    omega
  exact ⟨(IntKind.u64.wrap n).toNat, by omega⟩
theorem cv_uint_any (n : Int) : ∃ m : Nat, cv Yagv.prog 3 66 (.int .i64 n) w = .ok (.int .u64 (m : Int)) w := by
  have := run_convert_int (P := Yagv.prog) w 3 66 .i64 n (by rw [Yagv.underlying3]; rfl) (by simp [Program.intKind, Yagv.underlying66])
  obtain ⟨m, hm⟩ := u64_wrap_nat n
  refine ⟨m, ?_⟩
  unfold cv
  rw [this]
  simp only [Program.intKind, Yagv.underlying66]
  rw [hm]
end conv

/-! ### sizes, zero values -/
theorem isize {t n : Nat} (h : (Yagv.prog.info? t).map (·.size) = some n) (w : World) : (sizeOf t).run Yagv.prog w = .ok n w := by
  cases hq : Yagv.prog.info? t with
  | none => rw [hq] at h; simp at h
  | some i => rw [hq] at h; simp at h; simp [sizeOf, typeInfo, hq, h]
theorem size2 : (Yagv.prog.info? 2).map (·.size) = some 1 := by kernel_rfl
theorem size3 : (Yagv.prog.info? 3).map (·.size) = some 1 := by kernel_rfl
theorem size4 : (Yagv.prog.info? 4).map (·.size) = some 1 := by kernel_rfl
theorem size5 : (Yagv.prog.info? 5).map (·.size) = some 1 := by kernel_rfl
theorem size22 : (Yagv.prog.info? 22).map (·.size) = some 1 := by kernel_rfl
theorem size23 : (Yagv.prog.info? 23).map (·.size) = some 1 := by kernel_rfl
theorem size26 : (Yagv.prog.info? 26).map (·.size) = some 6 := by kernel_rfl
theorem size33 : (Yagv.prog.info? 33).map (·.size) = some 3 := by kernel_rfl
theorem size36 : (Yagv.prog.info? 36).map (·.size) = some 8 := by kernel_rfl
theorem size40 : (Yagv.prog.info? 40).map (·.size) = some 6 := by kernel_rfl
theorem size47 : (Yagv.prog.info? 47).map (·.size) = some 1 := by kernel_rfl
theorem size50 : (Yagv.prog.info? 50).map (·.size) = some 1 := by kernel_rfl
theorem size51 : (Yagv.prog.info? 51).map (·.size) = some 1 := by kernel_rfl
theorem size54 : (Yagv.prog.info? 54).map (·.size) = some 6 := by kernel_rfl
theorem size61 : (Yagv.prog.info? 61).map (·.size) = some 4 := by kernel_rfl
theorem size62 : (Yagv.prog.info? 62).map (·.size) = some 256 := by kernel_rfl
theorem size64 : (Yagv.prog.info? 64).map (·.size) = some 257 := by kernel_rfl
theorem size69 : (Yagv.prog.info? 69).map (·.size) = some 515 := by kernel_rfl
theorem size72 : (Yagv.prog.info? 72).map (·.size) = some 3 := by kernel_rfl
theorem size79 : (Yagv.prog.info? 79).map (·.size) = some 3 := by kernel_rfl
theorem size81 : (Yagv.prog.info? 81).map (·.size) = some 5 := by kernel_rfl
theorem size84 : (Yagv.prog.info? 84).map (·.size) = some 8 := by kernel_rfl

/-! ### fields, elements -/
theorem fa_of {s f : Nat} {w : World} {fs : Array Field} {fd : Field} {n o : Nat} (a : Addr) (hu : Yagv.prog.underlying s = some (.struct fs)) (hf : fs[f]? = some fd)
    (ho : fd.offset = o) (hn : (Yagv.prog.info? fd.type).map (·.size) = some (n + 1)) : fa Yagv.prog s (.pointer (some a)) f w = .ok (.pointer (some (a.add o))) w := by
  subst ho
  simp [fa, Instr.fieldAt, run_underlying hu, hf, Instr.sureAddr, fieldPlace, isize hn]
section fields
variable {w : World} (a : Addr)
theorem fa26_0 : fa Yagv.prog 26 (.pointer (some a)) 0 w = .ok (.pointer (some (a.add 0))) w := fa_of a Yagv.underlying26 rfl rfl size4
theorem fa26_1 : fa Yagv.prog 26 (.pointer (some a)) 1 w = .ok (.pointer (some (a.add 1))) w := fa_of a Yagv.underlying26 rfl rfl size3
theorem fa26_2 : fa Yagv.prog 26 (.pointer (some a)) 2 w = .ok (.pointer (some (a.add 2))) w := fa_of a Yagv.underlying26 rfl rfl size3
theorem fa26_3 : fa Yagv.prog 26 (.pointer (some a)) 3 w = .ok (.pointer (some (a.add 3))) w := fa_of a Yagv.underlying26 rfl rfl size3
theorem fa26_4 : fa Yagv.prog 26 (.pointer (some a)) 4 w = .ok (.pointer (some (a.add 4))) w := fa_of a Yagv.underlying26 rfl rfl size2
theorem fa26_5 : fa Yagv.prog 26 (.pointer (some a)) 5 w = .ok (.pointer (some (a.add 5))) w := fa_of a Yagv.underlying26 rfl rfl size2
theorem fa33_0 : fa Yagv.prog 33 (.pointer (some a)) 0 w = .ok (.pointer (some (a.add 0))) w := fa_of a Yagv.underlying33 rfl rfl size3
theorem fa33_1 : fa Yagv.prog 33 (.pointer (some a)) 1 w = .ok (.pointer (some (a.add 1))) w := fa_of a Yagv.underlying33 rfl rfl size3
theorem fa33_2 : fa Yagv.prog 33 (.pointer (some a)) 2 w = .ok (.pointer (some (a.add 2))) w := fa_of a Yagv.underlying33 rfl rfl size3
theorem fa54_0 : fa Yagv.prog 54 (.pointer (some a)) 0 w = .ok (.pointer (some (a.add 0))) w := fa_of a Yagv.underlying54 rfl rfl size4
theorem fa54_1 : fa Yagv.prog 54 (.pointer (some a)) 1 w = .ok (.pointer (some (a.add 1))) w := fa_of a Yagv.underlying54 rfl rfl size3
theorem fa54_2 : fa Yagv.prog 54 (.pointer (some a)) 2 w = .ok (.pointer (some (a.add 2))) w := fa_of a Yagv.underlying54 rfl rfl size3
theorem fa54_3 : fa Yagv.prog 54 (.pointer (some a)) 3 w = .ok (.pointer (some (a.add 3))) w := fa_of a Yagv.underlying54 rfl rfl size3
theorem fa54_4 : fa Yagv.prog 54 (.pointer (some a)) 4 w = .ok (.pointer (some (a.add 4))) w := fa_of a Yagv.underlying54 rfl rfl size2
theorem fa54_5 : fa Yagv.prog 54 (.pointer (some a)) 5 w = .ok (.pointer (some (a.add 5))) w := fa_of a Yagv.underlying54 rfl rfl size2
theorem fa61_0 : fa Yagv.prog 61 (.pointer (some a)) 0 w = .ok (.pointer (some (a.add 0))) w := fa_of a Yagv.underlying61 rfl rfl size4
theorem fa61_1 : fa Yagv.prog 61 (.pointer (some a)) 1 w = .ok (.pointer (some (a.add 1))) w := fa_of a Yagv.underlying61 rfl rfl size3
theorem fa61_2 : fa Yagv.prog 61 (.pointer (some a)) 2 w = .ok (.pointer (some (a.add 2))) w := fa_of a Yagv.underlying61 rfl rfl size3
theorem fa61_3 : fa Yagv.prog 61 (.pointer (some a)) 3 w = .ok (.pointer (some (a.add 3))) w := fa_of a Yagv.underlying61 rfl rfl size3
theorem fa64_0 : fa Yagv.prog 64 (.pointer (some a)) 0 w = .ok (.pointer (some (a.add 0))) w := fa_of a Yagv.underlying64 rfl rfl size62
theorem fa64_1 : fa Yagv.prog 64 (.pointer (some a)) 1 w = .ok (.pointer (some (a.add 256))) w := fa_of a Yagv.underlying64 rfl rfl size2
theorem fa69_0 : fa Yagv.prog 69 (.pointer (some a)) 0 w = .ok (.pointer (some (a.add 0))) w := fa_of a Yagv.underlying69 rfl rfl size64
theorem fa69_1 : fa Yagv.prog 69 (.pointer (some a)) 1 w = .ok (.pointer (some (a.add 257))) w := fa_of a Yagv.underlying69 rfl rfl size64
theorem fa69_2 : fa Yagv.prog 69 (.pointer (some a)) 2 w = .ok (.pointer (some (a.add 514))) w := fa_of a Yagv.underlying69 rfl rfl size4
theorem fa72_0 : fa Yagv.prog 72 (.pointer (some a)) 0 w = .ok (.pointer (some (a.add 0))) w := fa_of a Yagv.underlying72 rfl rfl size3
theorem fa72_1 : fa Yagv.prog 72 (.pointer (some a)) 1 w = .ok (.pointer (some (a.add 1))) w := fa_of a Yagv.underlying72 rfl rfl size3
theorem fa72_2 : fa Yagv.prog 72 (.pointer (some a)) 2 w = .ok (.pointer (some (a.add 2))) w := fa_of a Yagv.underlying72 rfl rfl size4
theorem fa79_0 : fa Yagv.prog 79 (.pointer (some a)) 0 w = .ok (.pointer (some (a.add 0))) w := fa_of a Yagv.underlying79 rfl rfl size3
theorem fa79_1 : fa Yagv.prog 79 (.pointer (some a)) 1 w = .ok (.pointer (some (a.add 1))) w := fa_of a Yagv.underlying79 rfl rfl size3
theorem fa79_2 : fa Yagv.prog 79 (.pointer (some a)) 2 w = .ok (.pointer (some (a.add 2))) w := fa_of a Yagv.underlying79 rfl rfl size3
theorem fa81_0 : fa Yagv.prog 81 (.pointer (some a)) 0 w = .ok (.pointer (some (a.add 0))) w := fa_of a Yagv.underlying81 rfl rfl size22
theorem fa81_1 : fa Yagv.prog 81 (.pointer (some a)) 1 w = .ok (.pointer (some (a.add 1))) w := fa_of a Yagv.underlying81 rfl rfl size3
theorem fa81_2 : fa Yagv.prog 81 (.pointer (some a)) 2 w = .ok (.pointer (some (a.add 2))) w := fa_of a Yagv.underlying81 rfl rfl size23
theorem fa81_3 : fa Yagv.prog 81 (.pointer (some a)) 3 w = .ok (.pointer (some (a.add 3))) w := fa_of a Yagv.underlying81 rfl rfl size3
theorem fa81_4 : fa Yagv.prog 81 (.pointer (some a)) 4 w = .ok (.pointer (some (a.add 4))) w := fa_of a Yagv.underlying81 rfl rfl size4
end fields

theorem ix_slice {t e sz k n c : Nat} {w : World} (a : Addr) (hu : Yagv.prog.underlying t = some (.slice e)) (hs : (Yagv.prog.info? e).map (·.size) = some sz) (h : k < n) :
    ix Yagv.prog t (.slice (some a) n c) (.int .i64 (k : Int)) w = .ok (.pointer (some (a.add (k * sz)))) w := by
  have h0 : (0 : Int) ≤ (k : Int) ∧ (k : Int) < (n : Int) := by omega
  unfold ix
  rw [run_indexAt_slice (P := Yagv.prog) w t a n c .i64 k (by simp [Program.elem, hu])]
  rw [if_pos h0]
  simp only [Program.elem, hu, isize hs, Result.andThen_ok, Int.toNat_natCast]
theorem ix_arr {t e sz k n : Nat} {w : World} (a : Addr) (hu : Yagv.prog.underlying t = some (.array n e)) (hs : (Yagv.prog.info? e).map (·.size) = some sz) (h : k < n) :
    ix Yagv.prog t (.pointer (some a)) (.int .i64 (k : Int)) w = .ok (.pointer (some (a.add (k * sz)))) w := by
  have h0 : (0 : Int) ≤ (k : Int) ∧ (k : Int) < (n : Int) := by omega
  unfold ix
  rw [run_indexAt_array (P := Yagv.prog) w t a .i64 k (by simp [Program.elem, Program.arrayLen, hu])]
  simp only [Program.arrayLen, hu]
  rw [if_pos h0]
  simp only [Program.elem, hu, isize hs, Result.andThen_ok, Int.toNat_natCast]
section elems
variable {w : World} {k n c : Nat} {a : Addr}
theorem ix22 (h : k < n) : ix Yagv.prog 22 (.slice (some a) n c) (.int .i64 (k : Int)) w = .ok (.pointer (some (a.add k))) w := by
  rw [ix_slice a Yagv.underlying22 size5 h, Nat.mul_one]
theorem ix23 (h : k < n) : ix Yagv.prog 23 (.slice (some a) n c) (.int .i64 (k : Int)) w = .ok (.pointer (some (a.add (k * 3)))) w :=
  ix_slice a Yagv.underlying23 size33 h
theorem ix39 (h : k < n) : ix Yagv.prog 39 (.slice (some a) n c) (.int .i64 (k : Int)) w = .ok (.pointer (some (a.add (k * 3)))) w :=
  ix_slice a Yagv.underlying39 size79 h
theorem ix47 (h : k < n) : ix Yagv.prog 47 (.slice (some a) n c) (.int .i64 (k : Int)) w = .ok (.pointer (some (a.add k))) w := by
  rw [ix_slice a Yagv.underlying47 size3 h, Nat.mul_one]
theorem ix50 (h : k < n) : ix Yagv.prog 50 (.slice (some a) n c) (.int .i64 (k : Int)) w = .ok (.pointer (some (a.add k))) w := by
  rw [ix_slice a Yagv.underlying50 size51 h, Nat.mul_one]
theorem ix51 (h : k < n) : ix Yagv.prog 51 (.slice (some a) n c) (.int .i64 (k : Int)) w = .ok (.pointer (some (a.add k))) w := by
  rw [ix_slice a Yagv.underlying51 size2 h, Nat.mul_one]
theorem ix65 (h : k < n) : ix Yagv.prog 65 (.slice (some a) n c) (.int .i64 (k : Int)) w = .ok (.pointer (some (a.add (k * 515)))) w :=
  ix_slice a Yagv.underlying65 size69 h
theorem ix70 (h : k < n) : ix Yagv.prog 70 (.slice (some a) n c) (.int .i64 (k : Int)) w = .ok (.pointer (some (a.add (k * 3)))) w :=
  ix_slice a Yagv.underlying70 size72 h
theorem ix87 (h : k < n) : ix Yagv.prog 87 (.slice (some a) n c) (.int .i64 (k : Int)) w = .ok (.pointer (some (a.add k))) w := by
  rw [ix_slice a Yagv.underlying87 size4 h, Nat.mul_one]
theorem ix62 (h : k < 256) : ix Yagv.prog 62 (.pointer (some a)) (.int .i64 (k : Int)) w = .ok (.pointer (some (a.add k))) w := by
  rw [ix_arr a Yagv.underlying62 size2 h, Nat.mul_one]
theorem ix62_0 : ix Yagv.prog 62 (.pointer (some a)) (.int .i64 0) w = .ok (.pointer (some (a.add 0))) w := ix62 (k := 0) (by omega)
theorem ix36 (h : k < 8) : ix Yagv.prog 36 (.pointer (some a)) (.int .i64 (k : Int)) w = .ok (.pointer (some (a.add k))) w := by
  rw [ix_arr a Yagv.underlying36 size3 h, Nat.mul_one]
theorem ix84 (h : k < 8) : ix Yagv.prog 84 (.pointer (some a)) (.int .i64 (k : Int)) w = .ok (.pointer (some (a.add k))) w := by
  rw [ix_arr a Yagv.underlying84 size4 h, Nat.mul_one]
end elems

theorem ln_of {t e n c : Nat} {ty : TypeId} {w : World} {b : Option Addr} (hu : Yagv.prog.underlying t = some (.slice e)) : ln Yagv.prog #[t] ty #[.slice b n c] w = .ok (.int .i64 (n : Int)) w := by
  unfold ln
  rw [run_len_slice (P := Yagv.prog) w t ty b n c (by simp [Program.elem, hu])]
  rfl
section lens
variable {n c : Nat} {ty : TypeId} {w : World} {b : Option Addr}
theorem ln22 : ln Yagv.prog #[22] ty #[.slice b n c] w = .ok (.int .i64 (n : Int)) w := ln_of Yagv.underlying22
theorem ln23 : ln Yagv.prog #[23] ty #[.slice b n c] w = .ok (.int .i64 (n : Int)) w := ln_of Yagv.underlying23
theorem ln39 : ln Yagv.prog #[39] ty #[.slice b n c] w = .ok (.int .i64 (n : Int)) w := ln_of Yagv.underlying39
theorem ln50 : ln Yagv.prog #[50] ty #[.slice b n c] w = .ok (.int .i64 (n : Int)) w := ln_of Yagv.underlying50
theorem ln51 : ln Yagv.prog #[51] ty #[.slice b n c] w = .ok (.int .i64 (n : Int)) w := ln_of Yagv.underlying51
theorem ln65 : ln Yagv.prog #[65] ty #[.slice b n c] w = .ok (.int .i64 (n : Int)) w := ln_of Yagv.underlying65
theorem ln70 : ln Yagv.prog #[70] ty #[.slice b n c] w = .ok (.int .i64 (n : Int)) w := ln_of Yagv.underlying70
theorem ln87 : ln Yagv.prog #[87] ty #[.slice b n c] w = .ok (.int .i64 (n : Int)) w := ln_of Yagv.underlying87
end lens

theorem sl_hi {t e sz k n c : Nat} {w : World} {b : Option Addr} (hu : Yagv.prog.underlying t = some (.slice e)) (hs : (Yagv.prog.info? e).map (·.size) = some sz) (h : k ≤ c) (h0 : 0 < c) :
    sl Yagv.prog t (.slice b n c) none (some (.int .i64 (k : Int))) none w = .ok (.slice b k c) w := by
  have h1 : (0 : Int) ≤ (k : Int) ∧ (k : Int) ≤ (c : Int) := by omega
  unfold sl
  simp only [Instr.sliceAt, Sem.run_bind, run_underlying hu, Result.andThen_ok, Instr.slice, Instr.sliceBounds, Instr.sliceBound, asIntOf, Sem.run_pure, Sem.run_ite]
  simp [h1, isize hs, Addr.add_zero']

/-! ### rows of cells -/
def Row (w : World) (b : Nat) (e : TypeId) (L : List Value) : Prop := w.heap[b]? = some (.cells L.toArray e (0, 0))
def upd (w : World) (b : Nat) (L : List Value) : World := w.setRow b L.toArray
theorem Row.cell {w : World} {b : Nat} {e : TypeId} {L : List Value} (h : Row w b e L) (o : Nat) : w.cell? ⟨b, o, none⟩ = L[o]? := by
  rw [cell_of_row w b o _ e (0, 0) h]; simp
theorem Row.lt {w : World} {b : Nat} {e : TypeId} {L : List Value} (h : Row w b e L) : b < w.heap.size := (Array.getElem?_eq_some_iff.1 h).1
theorem Row.upd {w : World} {b : Nat} {e : TypeId} {L : List Value} (h : Row w b e L) (L' : List Value) : Row (upd w b L') b e L' :=
  setRow_heap w b _ _ e (0, 0) h
theorem Row.upd_ne {w : World} {b b' : Nat} {e : TypeId} {L : List Value} (h : Row w b e L) (hne : b ≠ b') (L' : List Value) : Row (Yahagw.upd w b' L') b e L := by
  unfold Row Yahagw.upd; rw [setRow_other w b' b _ hne]; exact h
theorem Row.alloc {w : World} {b : Nat} {e : TypeId} {L : List Value} (h : Row w b e L) (o : Obj) : Row (w.alloc o) b e L := by
  unfold Row; rw [Below.heap_alloc w o b h.lt]; exact h
theorem Row.new (w : World) (e : TypeId) (L : List Value) : Row (w.alloc (.cells L.toArray e)) w.heap.size e L := heap_alloc_new w _
theorem Row.below {B : Nat} {w w' : World} {b : Nat} {e : TypeId} {L : List Value} (h : Row w b e L) (hb : Below B w w') (hlt : b < B) : Row w' b e L := by
  unfold Row; rw [hb.block b hlt]; exact h
theorem Row.drew {w : World} {b : Nat} {e : TypeId} {L : List Value} (h : Row w b e L) : Row w.drew b e L := h
theorem Row.ne {w : World} {b b' : Nat} {e e' : TypeId} {L L' : List Value} (h : Row w b e L) (h' : Row w b' e' L') (hne : e ≠ e') : b ≠ b' := by
  intro hb; subst hb
  unfold Row at h h'
  rw [h] at h'
  simp at h'
  exact hne h'.2
theorem size_upd (w : World) (b : Nat) (L : List Value) : (upd w b L).heap.size = w.heap.size := size_setRow _ _ _
theorem Below.upd {B : Nat} {a w : World} (h : Below B a w) {b : Nat} (hb : B ≤ b) (L : List Value) : Below B a (Yahagw.upd w b L) :=
  h.trans ⟨rfl, rfl, rfl, by rw [size_upd]; exact Nat.le_refl _, fun k hk => setRow_other w b k _ (by omega)⟩

/-! ### loads -/
def rowB : TypeDesc → Bool
  | .struct _ | .array _ _ => true
  | _ => false
def ldF (P : Program) (t : TypeId) (a : Addr) (w : World) : Result Value := (Instr.loadAt t (.pointer (some a))).run P w
def ofC (P : Program) (t : TypeId) (a : Addr) (w : World) : Option Value → Result Value
  | some v => .ok v w
  | none => ldF P t a w
theorem ofC_some (P : Program) (t : TypeId) (a : Addr) (w : World) (v : Value) : ofC P t a w (some v) = .ok v w := rfl
theorem ld_of {t : TypeId} {d : TypeDesc} (a : Addr) (w : World) (hu : Yagv.prog.underlying t = some d) (hd : rowB d = false) :
    ld Yagv.prog t (.pointer (some a)) w = ofC Yagv.prog t a w (w.cell? a) := by
  have hagg : (isAgg t).run Yagv.prog w = .ok false w := by
    unfold isAgg
    rw [Sem.run_bind, run_underlying hu w]
    cases d <;> first | rfl | (simp [rowB] at hd)
  cases hc : w.cell? a with
  | none => rfl
  | some v => simp [ld, ofC, Instr.loadAt, Instr.sureAddr, loadVar, hagg, hc]
section lds
variable (a : Addr) (w : World)
theorem ld2 : ld Yagv.prog 2 (.pointer (some a)) w = ofC Yagv.prog 2 a w (w.cell? a) := ld_of a w Yagv.underlying2 rfl
theorem ld3 : ld Yagv.prog 3 (.pointer (some a)) w = ofC Yagv.prog 3 a w (w.cell? a) := ld_of a w Yagv.underlying3 rfl
theorem ld4 : ld Yagv.prog 4 (.pointer (some a)) w = ofC Yagv.prog 4 a w (w.cell? a) := ld_of a w Yagv.underlying4 rfl
theorem ld5 : ld Yagv.prog 5 (.pointer (some a)) w = ofC Yagv.prog 5 a w (w.cell? a) := ld_of a w Yagv.underlying5 rfl
theorem ld22 : ld Yagv.prog 22 (.pointer (some a)) w = ofC Yagv.prog 22 a w (w.cell? a) := ld_of a w Yagv.underlying22 rfl
theorem ld23 : ld Yagv.prog 23 (.pointer (some a)) w = ofC Yagv.prog 23 a w (w.cell? a) := ld_of a w Yagv.underlying23 rfl
theorem ld47 : ld Yagv.prog 47 (.pointer (some a)) w = ofC Yagv.prog 47 a w (w.cell? a) := ld_of a w Yagv.underlying47 rfl
theorem ld51 : ld Yagv.prog 51 (.pointer (some a)) w = ofC Yagv.prog 51 a w (w.cell? a) := ld_of a w Yagv.underlying51 rfl
end lds
/-- A variable of several cells, read whole. -/
theorem ld_agg {t : TypeId} {d : TypeDesc} {n : Nat} (a : Addr) (w : World) (vs : List Value) (hu : Yagv.prog.underlying t = some d) (hd : rowB d = true)
    (hn : (Yagv.prog.info? t).map (·.size) = some n) (hl : vs.length = n) (hc : ∀ j v, vs[j]? = some v → w.cell? (a.add j) = some v) :
    ld Yagv.prog t (.pointer (some a)) w = .ok (.agg vs.toArray) w := by
  subst hl
  have hl : (loadCells a vs.length).run Yagv.prog w = .ok vs.toArray w := run_loadCells_list (P := Yagv.prog) w a vs hc
  have hagg : (isAgg t).run Yagv.prog w = .ok true w := by
    unfold isAgg
    rw [Sem.run_bind, run_underlying hu w]
    cases d <;> first | rfl | (simp [rowB] at hd)
  simp [ld, Instr.loadAt, Instr.sureAddr, loadVar, hagg, isize hn, hl]
theorem Row.ld {t : TypeId} {d : TypeDesc} {n : Nat} {w : World} {b : Nat} {e : TypeId} {L : List Value} (h : Row w b e L) (o : Nat) (hu : Yagv.prog.underlying t = some d) (hd : rowB d = true)
    (hn : (Yagv.prog.info? t).map (·.size) = some n) (hl : o + n ≤ L.length) :
    Yahagw.ld Yagv.prog t (.pointer (some ⟨b, o, none⟩)) w = .ok (.agg ((L.drop o).take n).toArray) w := by
  refine ld_agg _ w _ hu hd hn (by simp; omega) ?_
  intro j v hv
  rw [Addr.add_lit, h.cell]
  have hj : j < n := by
    have := (List.getElem?_eq_some_iff.1 hv).1
    simp at this; omega
  rw [List.getElem?_take_of_lt hj, List.getElem?_drop] at hv
  exact hv

/-! ### stores -/
theorem Row.st {t : TypeId} {n : Nat} {w : World} {b : Nat} {e : TypeId} {L : List Value} (h : Row w b e L) (o : Nat) (v : Value) (hn : (Yagv.prog.info? t).map (·.size) = some n)
    (hv : v.cells.size = n) (hl : o + n ≤ L.length) (h1 : ∀ u ∈ v.cells.toList, u.oneCell' = true) :
    Yahagw.st Yagv.prog t (.pointer (some ⟨b, o, none⟩)) v w = .ok () (Yahagw.upd w b (L.take o ++ v.cells.toList ++ L.drop (o + n))) := by
  subst hv
  have := run_storeCells_at (P := Yagv.prog) b o e v.cells.toList 0 L.toArray w h (by simpa using hl) h1
  simp only [Nat.add_zero, Array.length_toList] at this
  simp [Yahagw.st, Instr.storeAt, Instr.sureAddr, storeVar, isize hn, this, Yahagw.upd]
theorem set_eq {L : List Value} {o : Nat} {v : Value} (h : o < L.length) : L.take o ++ [v] ++ L.drop (o + 1) = L.set o v := by
  rw [List.set_eq_take_append_cons_drop, if_pos h]; simp
theorem Row.st1 {t : TypeId} {w : World} {b : Nat} {e : TypeId} {L : List Value} (h : Row w b e L) (o : Nat) (v : Value) (hn : (Yagv.prog.info? t).map (·.size) = some 1)
    (hv : v.oneCell' = true) (hl : o < L.length) :
    Yahagw.st Yagv.prog t (.pointer (some ⟨b, o, none⟩)) v w = .ok () (Yahagw.upd w b (L.set o v)) := by
  have hc : v.cells = #[v] := by cases v <;> first | rfl | (simp [Value.oneCell'] at hv)
  rw [Row.st h o v hn (by rw [hc]; rfl) (by omega) (by rw [hc]; simpa using hv), hc]
  simp only [List.toList_toArray]
  rw [set_eq hl]

/-! ### new variables -/
theorem al_of {t : TypeId} {v : Value} (w : World) (hz : (Yagv.prog.info? t).bind (·.zero) = some v) : al Yagv.prog t w = .ok (.pointer (some ⟨w.heap.size, 0, none⟩)) (w.alloc (.cells v.cells t)) := by
  cases hq : Yagv.prog.info? t with
  | none => rw [hq] at hz; simp at hz
  | some i =>
    rw [hq] at hz
    simp at hz
    simp [al, Instr.alloc, zeroValue, typeInfo, hq, hz, newVar, newRow]
section als
variable (w : World)
theorem al26 : al Yagv.prog 26 w = .ok (.pointer (some ⟨w.heap.size, 0, none⟩)) (w.alloc (.cells [.bool false, .int .i64 0, .int .i64 0, .int .i64 0, .int .i64 0, .int .i64 0].toArray 26)) :=
  al_of (v := .agg #[.bool false, .int .i64 0, .int .i64 0, .int .i64 0, .int .i64 0, .int .i64 0]) w (by kernel_rfl)
theorem al40 : al Yagv.prog 40 w = .ok (.pointer (some ⟨w.heap.size, 0, none⟩)) (w.alloc (.cells [.bool false, .int .i64 0, .int .i64 0, .int .i64 0, .int .i64 0, .int .i64 0].toArray 40)) :=
  al_of (v := .agg #[.bool false, .int .i64 0, .int .i64 0, .int .i64 0, .int .i64 0, .int .i64 0]) w (by kernel_rfl)
theorem al33 : al Yagv.prog 33 w = .ok (.pointer (some ⟨w.heap.size, 0, none⟩)) (w.alloc (.cells [.int .i64 0, .int .i64 0, .int .i64 0].toArray 33)) :=
  al_of (v := .agg #[.int .i64 0, .int .i64 0, .int .i64 0]) w (by kernel_rfl)
theorem al54 : al Yagv.prog 54 w = .ok (.pointer (some ⟨w.heap.size, 0, none⟩)) (w.alloc (.cells [.bool false, .int .i64 0, .int .i64 0, .int .i64 0, .int .i64 0, .int .i64 0].toArray 54)) :=
  al_of (v := .agg #[.bool false, .int .i64 0, .int .i64 0, .int .i64 0, .int .i64 0, .int .i64 0]) w (by kernel_rfl)
theorem al61 : al Yagv.prog 61 w = .ok (.pointer (some ⟨w.heap.size, 0, none⟩)) (w.alloc (.cells [.bool false, .int .i64 0, .int .i64 0, .int .i64 0].toArray 61)) :=
  al_of (v := .agg #[.bool false, .int .i64 0, .int .i64 0, .int .i64 0]) w (by kernel_rfl)
theorem al62 : al Yagv.prog 62 w = .ok (.pointer (some ⟨w.heap.size, 0, none⟩)) (w.alloc (.cells (List.replicate 256 (.int .i64 0)).toArray 62)) :=
  al_of (v := .agg (List.replicate 256 (.int .i64 0)).toArray) w (by kernel_rfl)
theorem al64 : al Yagv.prog 64 w = .ok (.pointer (some ⟨w.heap.size, 0, none⟩)) (w.alloc (.cells (List.replicate 257 (.int .i64 0)).toArray 64)) :=
  al_of (v := .agg (List.replicate 257 (.int .i64 0)).toArray) w (by kernel_rfl)
theorem al36 : al Yagv.prog 36 w = .ok (.pointer (some ⟨w.heap.size, 0, none⟩)) (w.alloc (.cells (List.replicate 8 (.int .i64 0)).toArray 36)) :=
  al_of (v := .agg (List.replicate 8 (.int .i64 0)).toArray) w (by kernel_rfl)
theorem al84 : al Yagv.prog 84 w = .ok (.pointer (some ⟨w.heap.size, 0, none⟩)) (w.alloc (.cells (List.replicate 8 (.bool false)).toArray 84)) :=
  al_of (v := .agg (List.replicate 8 (.bool false)).toArray) w (by kernel_rfl)
theorem al81 : al Yagv.prog 81 w = .ok (.pointer (some ⟨w.heap.size, 0, none⟩)) (w.alloc (.cells [.slice none 0 0, .int .i64 0, .slice none 0 0, .int .i64 0, .bool false].toArray 81)) :=
  al_of (v := .agg #[.slice none 0 0, .int .i64 0, .slice none 0 0, .int .i64 0, .bool false]) w (by kernel_rfl)
end als

theorem ok3 : okCall Yagv.prog 3 = true := by kernel_rfl
theorem ok4 : okCall Yagv.prog 4 = true := by kernel_rfl
theorem ok5 : okCall Yagv.prog 5 = true := by kernel_rfl
theorem ok6 : okCall Yagv.prog 6 = true := by kernel_rfl
theorem ok7 : okCall Yagv.prog 7 = true := by kernel_rfl
theorem ok8 : okCall Yagv.prog 8 = true := by kernel_rfl
theorem ok9 : okCall Yagv.prog 9 = true := by kernel_rfl
theorem ok10 : okCall Yagv.prog 10 = true := by kernel_rfl
theorem ok11 : okCall Yagv.prog 11 = true := by kernel_rfl
theorem ok12 : okCall Yagv.prog 12 = true := by kernel_rfl
theorem ok13 : okCall Yagv.prog 13 = true := by kernel_rfl
theorem ok14 : okCall Yagv.prog 14 = true := by kernel_rfl
theorem ok15 : okCall Yagv.prog 15 = true := by kernel_rfl
theorem ok16 : okCall Yagv.prog 16 = true := by kernel_rfl
theorem ok17 : okCall Yagv.prog 17 = true := by kernel_rfl
theorem ok18 : okCall Yagv.prog 18 = true := by kernel_rfl
theorem ok19 : okCall Yagv.prog 19 = true := by kernel_rfl
theorem ok20 : okCall Yagv.prog 20 = true := by kernel_rfl
theorem ok21 : okCall Yagv.prog 21 = true := by kernel_rfl
theorem ok22 : okCall Yagv.prog 22 = true := by kernel_rfl
theorem ok23 : okCall Yagv.prog 23 = true := by kernel_rfl
theorem ok24 : okCall Yagv.prog 24 = true := by kernel_rfl
theorem ok25 : okCall Yagv.prog 25 = true := by kernel_rfl
theorem ok26 : okCall Yagv.prog 26 = true := by kernel_rfl
theorem ok27 : okCall Yagv.prog 27 = true := by kernel_rfl
theorem ok28 : okCall Yagv.prog 28 = true := by kernel_rfl
theorem ok29 : okCall Yagv.prog 29 = true := by kernel_rfl
theorem ok30 : okCall Yagv.prog 30 = true := by kernel_rfl
theorem ok31 : okCall Yagv.prog 31 = true := by kernel_rfl
theorem ok32 : okCall Yagv.prog 32 = true := by kernel_rfl
theorem ok33 : okCall Yagv.prog 33 = true := by kernel_rfl
theorem ok34 : okCall Yagv.prog 34 = true := by kernel_rfl
theorem ok35 : okCall Yagv.prog 35 = true := by kernel_rfl
theorem ok36 : okCall Yagv.prog 36 = true := by kernel_rfl
theorem ok37 : okCall Yagv.prog 37 = true := by kernel_rfl
theorem ok38 : okCall Yagv.prog 38 = true := by kernel_rfl
theorem ok39 : okCall Yagv.prog 39 = true := by kernel_rfl
theorem ok40 : okCall Yagv.prog 40 = true := by kernel_rfl
theorem ok41 : okCall Yagv.prog 41 = true := by kernel_rfl
theorem ok46 : okCall Yagv.prog 46 = true := by kernel_rfl
theorem ok47 : okCall Yagv.prog 47 = true := by kernel_rfl
theorem ok48 : okCall Yagv.prog 48 = true := by kernel_rfl
theorem ok49 : okCall Yagv.prog 49 = true := by kernel_rfl
theorem ok50 : okCall Yagv.prog 50 = true := by kernel_rfl
theorem ok51 : okCall Yagv.prog 51 = true := by kernel_rfl
theorem ok52 : okCall Yagv.prog 52 = true := by kernel_rfl
theorem ok55 : okCall Yagv.prog 55 = true := by kernel_rfl
theorem ok56 : okCall Yagv.prog 56 = true := by kernel_rfl
theorem ok57 : okCall Yagv.prog 57 = true := by kernel_rfl
theorem ok58 : okCall Yagv.prog 58 = true := by kernel_rfl
theorem ok59 : okCall Yagv.prog 59 = true := by kernel_rfl
theorem ok60 : okCall Yagv.prog 60 = true := by kernel_rfl
theorem ok61 : okCall Yagv.prog 61 = true := by kernel_rfl
theorem ok62 : okCall Yagv.prog 62 = true := by kernel_rfl
theorem ok63 : okCall Yagv.prog 63 = true := by kernel_rfl
theorem ok42 : okCall Yagv.prog 42 = true := by kernel_rfl
theorem ok43 : okCall Yagv.prog 43 = true := by kernel_rfl
theorem ok44 : okCall Yagv.prog 44 = true := by kernel_rfl
theorem ok45 : okCall Yagv.prog 45 = true := by kernel_rfl
theorem ok53 : okCall Yagv.prog 53 = true := by kernel_rfl
theorem ok54 : okCall Yagv.prog 54 = true := by kernel_rfl
end Go.Proofs.Yahagw
