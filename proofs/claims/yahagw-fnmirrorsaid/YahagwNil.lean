/-
  A nil check on a pointer that is none.
-/
import Derived.Test.YahagwMk
set_option linter.unusedSimpArgs false
set_option linter.unusedVariables false
namespace Go.Proofs.Yahagw
open Go.RowKit

def nlOp : Oper := { dst := none, op := .nilCheck (.tmp 0), type := 0, pos := "", after := #[], guard := none }
def nlR (P : Program) (v : Value) (w : World) : Result Value := match (execOp (fun _ => v) nlOp).run P w with
  | .ok (.value u) w' => .ok u w'
  | .ok _ w' => .halt (.stuck "") w'
  | .halt h w' => .halt h w'
theorem nlR_ptr (P : Program) (x : Addr) (w : World) : nlR P (.pointer (some x)) w = .ok (.pointer (some x)) w := rfl
theorem nl_shape (P : Program) (v : Value) (w : World) : (∃ u w', (execOp (fun _ => v) nlOp).run P w = .ok (.value u) w') ∨ (∃ h w', (execOp (fun _ => v) nlOp).run P w = .halt h w') := by
  unfold nlOp execOp
  simp only
  cases v with
  | pointer a =>
    cases a with
    | none => right; simp [runtimePanic]
    | some a => left; exact ⟨_, _, rfl⟩
  | nilIface => right; simp [runtimePanic]
  | nilFunc => right; simp [runtimePanic]
  | func fn first captured =>
    cases fn with
    | method name =>
      simp only
      cases hf : (first[0]? : Option Value) with
      | none => left; simp only [Sem.run_pure]; exact ⟨_, _, rfl⟩
      | some u =>
        cases u with
        | nilIface => right; simp [runtimePanic]
        | iface t x =>
          simp only [Sem.run_bind, run_program, Result.andThen_ok]
          cases hn : (nilAhead (P.types.size + Made.depth) t x name).run P w with
          | ok b w' =>
            simp only [Result.andThen_ok]
            by_cases hb : (b != some false) = true
            · right; simp [hb]
            · left; simp [hb]
          | halt h w' => right; simp
        | _ => left; simp only [Sem.run_pure]; exact ⟨_, _, rfl⟩
    | _ => left; simp only [Sem.run_pure]; exact ⟨_, _, rfl⟩
  | _ => left; simp only [Sem.run_pure]; exact ⟨_, _, rfl⟩
theorem wpN_nl {P : Program} {ops : Array Oper} {K : Act → World → Prop} {rest : List Oper} {a : Act} {w : World} {d : Option Nat} {ty : TypeId} {pos : String} {af : Array Edge} (x : Operand) :
    wpN P ops K ({ dst := d, op := .nilCheck x, type := ty, pos := pos, after := af, guard := none } :: rest) a w = cont P ops K rest a d (nlR P (a.eval x) w) := by
  rw [wpN_plain _ rfl]
  unfold runN nlR
  have e : execOp a.eval { dst := d, op := .nilCheck x, type := ty, pos := pos, after := af, guard := none } = execOp (fun _ => a.eval x) nlOp := rfl
  rw [e]
  rcases nl_shape P (a.eval x) w with ⟨u, w', h⟩ | ⟨q, w', h⟩ <;> rw [h] <;> rfl
end Go.Proofs.Yahagw
