/-
  The walk's engine over an abstract frame: a frame is a variable, of which only what its slots hold is known.
-/
import Derived.Test.YahagwProg
import Derived.WalkKit
import Derived.WalkSpells
import Derived.Deep.LoopGhost
set_option linter.unusedSimpArgs false
set_option linter.unusedVariables false
namespace Go.Proofs.Yahagw
open Go.RowKit

/-! ### a call that returns; behind a structure, so that nothing opens it by chance -/
def postN (R : Value → World → Prop) : Ending → World → Prop := fun e w' => ∃ v, e = .returned v ∧ R v w'
structure CN (P : Program) (f : FuncId) (args : Array Value) (w : World) (R : Value → World → Prop) : Prop where
  out : Calls P f args w (postN R)
theorem CN.mono {P : Program} {f : FuncId} {args : Array Value} {w : World} {R R' : Value → World → Prop} (h : CN P f args w R) (hr : ∀ v w', R v w' → R' v w') : CN P f args w R' :=
  ⟨h.out.mono fun _ _ ⟨v, he, hv⟩ => ⟨v, he, hr _ _ hv⟩⟩

/-! ### one operation, one list of operations: nothing panics, nothing is let out -/
def runN (P : Program) (o : Oper) (a : Act) (w : World) (next : Act → World → Prop) : Prop :=
  match (execOp a.eval o).run P w with
  | .ok (.value v) w' => next (a.put o.dst v) w'
  | .ok .skip w' => next (a.put o.dst undef) w'
  | .ok (.enter f args) w' => CN P f args w' fun v w'' => next (a.put o.dst v) w''
  | _ => False

def wpN (P : Program) (ops : Array Oper) (K : Act → World → Prop) : List Oper → Act → World → Prop
  | [], a, w => K a w
  | o :: rest, a, w => if Region.wanted o (yielded ops a.tmps) then runN P o a w (wpN P ops K rest) else wpN P ops K rest (a.put o.dst undef) w

theorem runN_wp {P : Program} {o : Oper} {a : Act} {w : World} {next : Act → World → Prop} {next' : Act → World → Prop} {Q : Exit → Act → World → Prop}
    (h : runN P o a w next) (hn : ∀ a w, next a w → next' a w) : o.wp P a w next' Q := by
  unfold runN at h
  unfold Oper.wp
  split at h
  · rename_i v w' hr; rw [hr]; exact hn _ _ h
  · rename_i w' hr; rw [hr]; exact hn _ _ h
  · rename_i f args w' hr
    rw [hr]
    refine Calls.mono h.out ?_
    rintro e w'' ⟨v, rfl, hv⟩
    exact hn _ _ hv
  · exact h.elim

theorem wpN_list {P : Program} {ops : Array Oper} {K : Act → World → Prop} {Q : Exit → Act → World → Prop} (hK : ∀ a w, K a w → Q .normal a w) :
    ∀ (l : List Oper) (a : Act) (w : World), wpN P ops K l a w → wpList P ops Q l a w
  | [], a, w, h => hK _ _ h
  | o :: rest, a, w, h => by
    unfold wpN at h
    unfold wpList
    split
    · rename_i hw
      rw [if_pos hw] at h
      exact .inl (runN_wp h (wpN_list hK rest))
    · rename_i hw
      rw [if_neg hw] at h
      exact wpN_list hK rest _ _ h

theorem wp_reg {P : Program} {id : Nat} {l : List Oper} {Q : Exit → Act → World → Prop} {a : Act} {w : World}
    (h : ∀ K : Act → World → Prop, (∀ a w, Q .normal a w → K a w) → wpN P l.toArray K l a w) : (Code.region id l.toArray false).wp P Q a w :=
  wp_region_lit (wpN_list (fun _ _ h => h) l a w (h _ (fun _ _ h => h)))

theorem wp_sreg {P : Program} {id : Nat} {l : List Oper} {y : Code} {Q : Exit → Act → World → Prop} {a : Act} {w : World}
    (h : ∀ K : Act → World → Prop, (∀ a w, y.wp P Q a w → K a w) → wpN P l.toArray K l a w) : (Code.seq (Code.region id l.toArray false) y).wp P Q a w :=
  wp_seq (wp_region_lit (wpN_list (Q := Exit.then (y.wp P Q) Q) (fun _ _ h => h) l a w (h _ (fun _ _ h => h))))

/-! ### the frame -/
theorem ev_const (a : Act) (v : Value) : a.eval (.const v) = v := rfl
theorem ev_put_same (a : Act) (d : Nat) (v : Value) (h : d < a.tmps.size) : (a.put (some d) v).eval (.tmp d) = v := by
  simp [Act.eval, Act.put, h]
theorem ev_put_ne (a : Act) (d t : Nat) (v : Value) (h : (d == t) = false) : (a.put (some d) v).eval (.tmp t) = a.eval (.tmp t) := by
  have : d ≠ t := by simpa using h
  simp only [Act.eval, Act.put, Array.getD_eq_getD_getElem?]
  rw [Array.getElem?_setIfInBounds_ne this]
theorem sz_put (a : Act) (d : Option Nat) (v : Value) : (a.put d v).tmps.size = a.tmps.size := by
  cases d <;> simp [Act.put]
theorem df_put (a : Act) (d : Option Nat) (v : Value) : (a.put d v).defers = a.defers := by
  cases d <;> rfl
theorem put_none (a : Act) (v : Value) : a.put none v = a := rfl

/-! ### entering a function -/
theorem enter {P : Program} {f : FuncId} {fn : Func} {c : Code} {args : Array Value} {w : World} {R : Value → World → Prop} (n : Nat)
    (hf : P.funcs[f]? = some fn) (hb : fn.body = some c) (hn : fn.ntmps = n) (hs : args.size ≤ n)
    (h : ∀ a : Act, a.tmps.size = n → a.defers = [] → (∀ i v, args[i]? = some v → a.eval (.tmp i) = v) → c.wp P (bodyPost P fn (postN R)) a w) : CN P f args w R := by
  refine ⟨calls_of_wp hf hb (h _ ?_ rfl ?_)⟩
  · simp; omega
  · intro i v hv
    have hi : i < args.size := (Array.getElem?_eq_some_iff.1 hv).1
    simp only [Act.eval, Array.getD_eq_getD_getElem?]
    rw [Array.getElem?_append_left hi, hv]
    rfl

/-! ### results -/
theorem ret1 {P : Program} {fn : Func} {R : Value → World → Prop} {a : Act} {w : World} {t : Nat} (v : Value) (hr : fn.results = #[.tmp t])
    (hd : a.defers = []) (hv : a.eval (.tmp t) = v) (h : R v w) : bodyPost P fn (postN R) .ret a w :=
  bodyPost_ret (results_tmp hr _ _ _) hd ⟨v, by have : a.tmps.getD t undef = v := hv; rw [this], h⟩
theorem ret0 {P : Program} {fn : Func} {R : Value → World → Prop} {a : Act} {w : World} (hr : fn.results = #[])
    (hd : a.defers = []) (h : R (.tuple #[]) w) : bodyPost P fn (postN R) .ret a w :=
  bodyPost_ret (results_none hr _ _ _) hd ⟨_, rfl, h⟩
theorem end0 {P : Program} {fn : Func} {R : Value → World → Prop} {a : Act} {w : World} (hr : fn.results = #[])
    (hd : a.defers = []) (h : R (.tuple #[]) w) : bodyPost P fn (postN R) .normal a w :=
  bodyPost_end (results_none hr _ _ _) hd ⟨_, rfl, h⟩
theorem ret2 {P : Program} {fn : Func} {R : Value → World → Prop} {a : Act} {w : World} {t u : Nat} (v x : Value) (hr : fn.results = #[.tmp t, .tmp u])
    (hd : a.defers = []) (hv : a.eval (.tmp t) = v) (hx : a.eval (.tmp u) = x) (h : R (.tuple #[v, x]) w) : bodyPost P fn (postN R) .ret a w :=
  bodyPost_ret (results_tmp2 hr _ _ _) hd ⟨_, rfl, by have e1 : a.tmps.getD t undef = v := hv; have e2 : a.tmps.getD u undef = x := hx; rw [e1, e2]; exact h⟩
theorem ret3 {P : Program} {fn : Func} {R : Value → World → Prop} {a : Act} {w : World} {t u s : Nat} (v x y : Value) (hr : fn.results = #[.tmp t, .tmp u, .tmp s])
    (hd : a.defers = []) (hv : a.eval (.tmp t) = v) (hx : a.eval (.tmp u) = x) (hy : a.eval (.tmp s) = y) (h : R (.tuple #[v, x, y]) w) : bodyPost P fn (postN R) .ret a w := by
  refine bodyPost_ret (v := .tuple #[v, x, y]) ?_ hd ⟨_, rfl, h⟩
  have e1 : a.tmps.getD t undef = v := hv
  have e2 : a.tmps.getD u undef = x := hx
  have e3 : a.tmps.getD s undef = y := hy
  simp only [Array.getD_eq_getD_getElem?] at e1 e2 e3
  simp [results, hr, e1, e2, e3]
theorem ret4 {P : Program} {fn : Func} {R : Value → World → Prop} {a : Act} {w : World} {t u s r : Nat} (v x y z : Value) (hr : fn.results = #[.tmp t, .tmp u, .tmp s, .tmp r])
    (hd : a.defers = []) (hv : a.eval (.tmp t) = v) (hx : a.eval (.tmp u) = x) (hy : a.eval (.tmp s) = y) (hz : a.eval (.tmp r) = z) (h : R (.tuple #[v, x, y, z]) w) : bodyPost P fn (postN R) .ret a w := by
  refine bodyPost_ret (v := .tuple #[v, x, y, z]) ?_ hd ⟨_, rfl, h⟩
  have e1 : a.tmps.getD t undef = v := hv
  have e2 : a.tmps.getD u undef = x := hx
  have e3 : a.tmps.getD s undef = y := hy
  have e4 : a.tmps.getD r undef = z := hz
  simp only [Array.getD_eq_getD_getElem?] at e1 e2 e3 e4
  simp [results, hr, e1, e2, e3, e4]

/-! ### ways out -/
section exits
variable {next : Act → World → Prop} {Q : Exit → Act → World → Prop} {a : Act} {w : World} {i j : Nat}
theorem thenN (h : next a w) : Exit.then next Q .normal a w := h
theorem thenX (h : Q (.exit i) a w) : Exit.then next Q (.exit i) a w := h
theorem thenR (h : Q .ret a w) : Exit.then next Q .ret a w := h
theorem blkN (h : Q .normal a w) : Exit.inBlock i Q .normal a w := h
theorem blkX (h : Q .normal a w) : Exit.inBlock i Q (.exit i) a w := by simp only [Exit.inBlock, if_true]; exact h
theorem blkY (hne : (j == i) = false) (h : Q (.exit j) a w) : Exit.inBlock i Q (.exit j) a w := by
  have : ¬ j = i := by simpa using hne
  simp only [Exit.inBlock, if_neg this]; exact h
theorem blkR (h : Q .ret a w) : Exit.inBlock i Q .ret a w := h
end exits

/-! ### a loop with a ghost -/
theorem wp_loop_g {P : Program} {Q : Exit → Act → World → Prop} {a : Act} {w : World} {c : Code} {G : Type} (m : G → Nat) (I : G → Act → World → Prop) (g₀ : G) (h₀ : I g₀ a w)
    (round : ∀ g a w, I g a w → c.wp P (Exit.then (fun a' w' => ∃ g', m g' < m g ∧ I g' a' w') Q) a w) : (Code.loop c).wp P Q a w := by
  refine wp_loop_ghost (fun n a w => ∃ g, m g = n ∧ I g a w) (m g₀) ⟨g₀, rfl, h₀⟩ ?_
  rintro n a w ⟨g, rfl, hI⟩
  refine wp_mono (round g a w hI) ?_
  intro e a' w' hq
  cases e with
  | normal =>
    obtain ⟨g', hlt, hI'⟩ := hq
    exact ⟨m g', hlt, g', rfl, hI'⟩
  | exit id => exact hq
  | goto l => exact hq
  | ret => exact hq
  | panic ch => exact hq
  | outgrown => exact hq

/-! ### the operations, one law each -/
section ops
variable {P : Program} {ops : Array Oper} {K : Act → World → Prop} {rest : List Oper} {a : Act} {w : World} {d : Option Nat} {ty : TypeId} {pos : String} {af : Array Edge}

def cont (P : Program) (ops : Array Oper) (K : Act → World → Prop) (rest : List Oper) (a : Act) (d : Option Nat) : Result Value → Prop
  | .ok v w => wpN P ops K rest (a.put d v) w
  | .halt _ _ => False
def contU (P : Program) (ops : Array Oper) (K : Act → World → Prop) (rest : List Oper) (a : Act) (d : Option Nat) : Result Unit → Prop
  | .ok _ w => wpN P ops K rest (a.put d undef) w
  | .halt _ _ => False
theorem cont_ok (v : Value) : cont P ops K rest a d (.ok v w) = wpN P ops K rest (a.put d v) w := rfl
theorem contU_ok (v : Unit) : contU P ops K rest a d (.ok v w) = wpN P ops K rest (a.put d undef) w := rfl

theorem wpN_nil : wpN P ops K [] a w = K a w := rfl
theorem wpN_plain (o : Oper) (h : o.guard = none) : wpN P ops K (o :: rest) a w = runN P o a w (wpN P ops K rest) := by
  simp [wpN, Region.wanted, h]

def gd (v : Value) (b : Bool) : Bool := match v with | .bool c => c == b | _ => false
theorem gd_bool (c b : Bool) : gd (.bool c) b = (c == b) := rfl
theorem gd_undef (b : Bool) : gd undef b = false := rfl
theorem gd_t (c : Bool) : gd (.bool c) true = c := by cases c <;> rfl
theorem gd_f (c : Bool) : gd (.bool c) false = !c := by cases c <;> rfl
def nthDst : List Oper → Nat → Option Nat
  | [], _ => none
  | o :: _, 0 => o.dst
  | _ :: l, n + 1 => nthDst l n
theorem nthDst_eq : ∀ (l : List Oper) (j : Nat), (l[j]?).bind (·.dst) = nthDst l j
  | [], j => by simp [nthDst]
  | o :: l, 0 => by simp [nthDst]
  | o :: l, j + 1 => by simp only [List.getElem?_cons_succ, nthDst]; exact nthDst_eq l j
theorem nthDst_zero (o : Oper) (l : List Oper) : nthDst (o :: l) 0 = o.dst := rfl
theorem nthDst_succ (o : Oper) (l : List Oper) (n : Nat) : nthDst (o :: l) (n + 1) = nthDst l n := rfl
def gdAt (a : Act) (d : Option Nat) (b : Bool) : Bool := match d with | some d => gd (a.eval (.tmp d)) b | none => false
theorem gdAt_some (a : Act) (d : Nat) (b : Bool) : gdAt a (some d) b = gd (a.eval (.tmp d)) b := rfl
theorem wpN_guard {l : List Oper} (op : Op) (j : Nat) (b : Bool) :
    wpN P l.toArray K ({ dst := d, op := op, type := ty, pos := pos, after := af, guard := some (j, b) } :: rest) a w =
      if gdAt a (nthDst l j) b = true then wpN P l.toArray K ({ dst := d, op := op, type := ty, pos := pos, after := af, guard := none } :: rest) a w else wpN P l.toArray K rest (a.put d undef) w := by
  have hy : (yielded l.toArray a.tmps j == some b) = gdAt a (nthDst l j) b := by
    unfold yielded
    rw [← nthDst_eq, List.getElem?_toArray]
    cases hd : (l[j]?).bind (·.dst) with
    | none => simp [gdAt]
    | some t =>
      simp only [gdAt, Option.bind_some, Act.eval, Array.getD_eq_getD_getElem?]
      cases ht : a.tmps[t]? with
      | none => simp [gd, undef]
      | some v => cases v <;> simp [gd]
  simp only [wpN, Region.wanted, hy]
  rfl

theorem wpN_move (x : Operand) : wpN P ops K ({ dst := d, op := .move x, type := ty, pos := pos, after := af, guard := none } :: rest) a w = wpN P ops K rest (a.put d (a.eval x)) w := by
  rw [wpN_plain _ rfl]; rfl
theorem wpN_assign (x : Operand) : wpN P ops K ({ dst := d, op := .assign x, type := ty, pos := pos, after := af, guard := none } :: rest) a w = wpN P ops K rest (a.put d (a.eval x)) w := by
  rw [wpN_plain _ rfl]; rfl

def vals (P : Program) (s : Sem Value) (w : World) : Result Value := s.run P w
theorem runN_v {s : Sem Value} {o : Oper} {next : Act → World → Prop} (h : execOp a.eval o = do pure (.value (← s))) :
    runN P o a w next = match s.run P w with | .ok v w' => next (a.put o.dst v) w' | .halt _ _ => False := by
  unfold runN
  rw [h]
  simp only [Sem.run_bind]
  cases s.run P w <;> rfl
theorem runN_u {s : Sem Unit} {o : Oper} {next : Act → World → Prop} (h : execOp a.eval o = do s; pure .skip) :
    runN P o a w next = match s.run P w with | .ok _ w' => next (a.put o.dst undef) w' | .halt _ _ => False := by
  unfold runN
  rw [h]
  simp only [Sem.run_bind]
  cases s.run P w <;> rfl
theorem cont_match {s : Sem Value} : (match s.run P w with | .ok v w' => wpN P ops K rest (a.put d v) w' | .halt _ _ => False) = cont P ops K rest a d (s.run P w) := by
  cases s.run P w <;> rfl
theorem contU_match {s : Sem Unit} : (match s.run P w with | .ok _ w' => wpN P ops K rest (a.put d undef) w' | .halt _ _ => False) = contU P ops K rest a d (s.run P w) := by
  cases s.run P w <;> rfl

def bn (P : Program) (op : BinOp) (t : TypeId) (x y : Operand) (u v : Value) (w : World) : Result Value := (do eqGuard op t x y u v; binOp op t u v : Sem Value).run P w
theorem wpN_bin (op : BinOp) (t : TypeId) (x y : Operand) (t2 : TypeId) :
    wpN P ops K ({ dst := d, op := .binOp op t x y t2, type := ty, pos := pos, after := af, guard := none } :: rest) a w = cont P ops K rest a d (bn P op t x y (a.eval x) (a.eval y) w) := by
  rw [wpN_plain _ rfl, runN_v (s := do eqGuard op t x y (a.eval x) (a.eval y); binOp op t (a.eval x) (a.eval y)) rfl, cont_match]; rfl
def un (P : Program) (op : UnOp) (v : Value) (w : World) : Result Value := (Op.unary op v).run P w
theorem wpN_un (op : UnOp) (t : TypeId) (x : Operand) :
    wpN P ops K ({ dst := d, op := .unOp op t x, type := ty, pos := pos, after := af, guard := none } :: rest) a w = cont P ops K rest a d (un P op (a.eval x) w) := by
  rw [wpN_plain _ rfl, runN_v (s := Op.unary op (a.eval x)) rfl, cont_match]; rfl
def cv (P : Program) (s t : TypeId) (v : Value) (w : World) : Result Value := (convert s t v).run P w
theorem wpN_cv (s t : TypeId) (x : Operand) :
    wpN P ops K ({ dst := d, op := .convert s t x, type := ty, pos := pos, after := af, guard := none } :: rest) a w = cont P ops K rest a d (cv P s t (a.eval x) w) := by
  rw [wpN_plain _ rfl, runN_v (s := convert s t (a.eval x)) rfl, cont_match]; rfl
def pk (P : Program) (c u v : Value) (w : World) : Result Value := (do pure (if ← asBool c then u else v) : Sem Value).run P w
theorem wpN_pick (c x y : Operand) :
    wpN P ops K ({ dst := d, op := .pick c x y, type := ty, pos := pos, after := af, guard := none } :: rest) a w = cont P ops K rest a d (pk P (a.eval c) (a.eval x) (a.eval y) w) := by
  rw [wpN_plain _ rfl]
  unfold runN pk
  simp only [execOp, Sem.run_bind, Sem.run_pure]
  cases (asBool (a.eval c)).run P w <;> rfl
theorem pk_bool (b : Bool) (u v : Value) : pk P (.bool b) u v w = .ok (bif b then u else v) w := by
  cases b <;> rfl
def al (P : Program) (t : TypeId) (w : World) : Result Value := (Instr.alloc t true (.tuple #[])).run P w
theorem wpN_al (t : TypeId) :
    wpN P ops K ({ dst := d, op := .alloc t, type := ty, pos := pos, after := af, guard := none } :: rest) a w = cont P ops K rest a d (al P t w) := by
  rw [wpN_plain _ rfl, runN_v (s := Instr.alloc t true (.tuple #[])) rfl, cont_match]; rfl
def bx (P : Program) (t : TypeId) (v : Value) (w : World) : Result Value := (Instr.box t v).run P w
theorem wpN_bx (t : TypeId) (x : Operand) :
    wpN P ops K ({ dst := d, op := .box t x, type := ty, pos := pos, after := af, guard := none } :: rest) a w = cont P ops K rest a d (bx P t (a.eval x) w) := by
  rw [wpN_plain _ rfl, runN_v (s := Instr.box t (a.eval x)) rfl, cont_match]; rfl
def bd (P : Program) (t : TypeId) (parts : Array (Nat × Value)) (w : World) : Result Value := (Instr.build t parts).run P w
theorem wpN_bd (t : TypeId) (parts : Array (Nat × Operand)) :
    wpN P ops K ({ dst := d, op := .build t parts, type := ty, pos := pos, after := af, guard := none } :: rest) a w = cont P ops K rest a d (bd P t (parts.map fun (i, x) => (i, a.eval x)) w) := by
  rw [wpN_plain _ rfl, runN_v (s := Instr.build t (parts.map fun (i, x) => (i, a.eval x))) rfl, cont_match]; rfl
def bs (P : Program) (t : TypeId) (n : Nat) (parts : Array (Nat × Value)) (w : World) : Result Value := (Instr.buildSlice t n parts).run P w
theorem wpN_bs (t : TypeId) (n : Nat) (parts : Array (Nat × Operand)) :
    wpN P ops K ({ dst := d, op := .buildSlice t n parts, type := ty, pos := pos, after := af, guard := none } :: rest) a w = cont P ops K rest a d (bs P t n (parts.map fun (i, x) => (i, a.eval x)) w) := by
  rw [wpN_plain _ rfl, runN_v (s := Instr.buildSlice t n (parts.map fun (i, x) => (i, a.eval x))) rfl, cont_match]; rfl
def ld (P : Program) (t : TypeId) (v : Value) (w : World) : Result Value := (Instr.loadAt t v).run P w
theorem wpN_ld (t : TypeId) (x : Operand) :
    wpN P ops K ({ dst := d, op := .load t x, type := ty, pos := pos, after := af, guard := none } :: rest) a w = cont P ops K rest a d (ld P t (a.eval x) w) := by
  rw [wpN_plain _ rfl, runN_v (s := Instr.loadAt t (a.eval x)) rfl, cont_match]; rfl
def st (P : Program) (t : TypeId) (v x : Value) (w : World) : Result Unit := (Instr.storeAt t v x).run P w
theorem wpN_st (t : TypeId) (x y : Operand) :
    wpN P ops K ({ dst := d, op := .store t x y, type := ty, pos := pos, after := af, guard := none } :: rest) a w = contU P ops K rest a d (st P t (a.eval x) (a.eval y) w) := by
  rw [wpN_plain _ rfl, runN_u (s := Instr.storeAt t (a.eval x) (a.eval y)) rfl, contU_match]; rfl
def fa (P : Program) (t : TypeId) (v : Value) (f : Nat) (w : World) : Result Value := (Instr.fieldAt t v f).run P w
theorem wpN_fa (t : TypeId) (x : Operand) (f : Nat) :
    wpN P ops K ({ dst := d, op := .fieldAddr t x f, type := ty, pos := pos, after := af, guard := none } :: rest) a w = cont P ops K rest a d (fa P t (a.eval x) f w) := by
  rw [wpN_plain _ rfl, runN_v (s := Instr.fieldAt t (a.eval x) f) rfl, cont_match]; rfl
def fl (P : Program) (t : TypeId) (v : Value) (f : Nat) (w : World) : Result Value := (Instr.field t v f).run P w
theorem wpN_fl (t : TypeId) (x : Operand) (f : Nat) :
    wpN P ops K ({ dst := d, op := .field t x f, type := ty, pos := pos, after := af, guard := none } :: rest) a w = cont P ops K rest a d (fl P t (a.eval x) f w) := by
  rw [wpN_plain _ rfl, runN_v (s := Instr.field t (a.eval x) f) rfl, cont_match]; rfl
def ix (P : Program) (t : TypeId) (v i : Value) (w : World) : Result Value := (Instr.indexAt t v i).run P w
theorem wpN_ix (t : TypeId) (x y : Operand) :
    wpN P ops K ({ dst := d, op := .indexAddr t x y, type := ty, pos := pos, after := af, guard := none } :: rest) a w = cont P ops K rest a d (ix P t (a.eval x) (a.eval y) w) := by
  rw [wpN_plain _ rfl, runN_v (s := Instr.indexAt t (a.eval x) (a.eval y)) rfl, cont_match]; rfl
def mk (P : Program) (t : TypeId) (n c : Value) (w : World) : Result Value := (Instr.makeSlice t n c).run P w
theorem wpN_mk (t : TypeId) (x y : Operand) :
    wpN P ops K ({ dst := d, op := .makeSlice t x y, type := ty, pos := pos, after := af, guard := none } :: rest) a w = cont P ops K rest a d (mk P t (a.eval x) (a.eval y) w) := by
  rw [wpN_plain _ rfl, runN_v (s := Instr.makeSlice t (a.eval x) (a.eval y)) rfl, cont_match]; rfl
def sl (P : Program) (t : TypeId) (v : Value) (lo hi mx : Option Value) (w : World) : Result Value := (Instr.sliceAt t v lo hi mx).run P w
theorem wpN_sl (t : TypeId) (x : Operand) (lo hi mx : Option Operand) :
    wpN P ops K ({ dst := d, op := .slice t x lo hi mx, type := ty, pos := pos, after := af, guard := none } :: rest) a w = cont P ops K rest a d (sl P t (a.eval x) (lo.map a.eval) (hi.map a.eval) (mx.map a.eval) w) := by
  rw [wpN_plain _ rfl, runN_v (s := Instr.sliceAt t (a.eval x) (lo.map a.eval) (hi.map a.eval) (mx.map a.eval)) rfl, cont_match]; rfl
def ex (P : Program) (v : Value) (i : Nat) (w : World) : Result Value := (Instr.extract v i).run P w
theorem wpN_ex (x : Operand) (i : Nat) :
    wpN P ops K ({ dst := d, op := .extract x i, type := ty, pos := pos, after := af, guard := none } :: rest) a w = cont P ops K rest a d (ex P (a.eval x) i w) := by
  rw [wpN_plain _ rfl, runN_v (s := Instr.extract (a.eval x) i) rfl, cont_match]; rfl
def ln (P : Program) (ts : Array TypeId) (t : TypeId) (vs : Array Value) (w : World) : Result Value := (Builtin.len_ ts t vs).run P w
theorem wpN_len (xs : Array Operand) (ats : Array TypeId) :
    wpN P ops K ({ dst := d, op := .call { callee := .builtin .len, args := xs, argTypes := ats }, type := ty, pos := pos, after := af, guard := none } :: rest) a w = cont P ops K rest a d (ln P ats ty (xs.map a.eval) w) := by
  rw [wpN_plain _ rfl, runN_v (s := Builtin.len_ ats ty (xs.map a.eval)) rfl, cont_match]; rfl
def ap (P : Program) (ts : Array TypeId) (vs : Array Value) (w : World) : Result Value := (Builtin.append_ ts 0 vs).run P w
theorem wpN_append (xs : Array Operand) (ats : Array TypeId) :
    wpN P ops K ({ dst := d, op := .call { callee := .builtin .append, args := xs, argTypes := ats }, type := ty, pos := pos, after := af, guard := none } :: rest) a w = cont P ops K rest a d (ap P ats (xs.map a.eval) w) := by
  rw [wpN_plain _ rfl, runN_v (s := Builtin.append_ ats ty (xs.map a.eval)) rfl, cont_match]; rfl
def nc (v : Value) (w : World) : Result Value := match v with | .pointer (some x) => .ok (.pointer (some x)) w | _ => .halt (.stuck "") w
theorem nc_ptr (x : Addr) : nc (.pointer (some x)) w = .ok (.pointer (some x)) w := rfl
theorem wpN_nc (x : Operand) {y : Addr} (h : a.eval x = .pointer (some y)) :
    wpN P ops K ({ dst := d, op := .nilCheck x, type := ty, pos := pos, after := af, guard := none } :: rest) a w = wpN P ops K rest (a.put d (.pointer (some y))) w := by
  rw [wpN_plain _ rfl]
  unfold runN
  simp only [execOp, h, Sem.run_pure]

/-- A function that the program names has a body. -/
def okCall (P : Program) (f : FuncId) : Bool :=
  match P.funcs[f]? with
  | some fn => fn.name != "runtime.NumGoroutine" && fn.body.isSome
  | none => false
theorem wpN_call (f : FuncId) (xs : Array Operand) (ats : Array TypeId) (h : okCall P f = true) :
    wpN P ops K ({ dst := d, op := .call { callee := .value (.func f), args := xs, argTypes := ats }, type := ty, pos := pos, after := af, guard := none } :: rest) a w =
      CN P f (xs.map a.eval) w fun v w' => wpN P ops K rest (a.put d v) w' := by
  rw [wpN_plain _ rfl]
  unfold runN
  rw [execOp_call_go]
  simp only [Array.empty_append, Array.append_empty]
  unfold okCall at h
  split at h
  · rename_i fn hf
    simp only [Bool.and_eq_true, bne_iff_ne, ne_eq] at h
    have hn : (fn.name == "runtime.NumGoroutine") = false := by simpa using h.1
    have hb : fn.body.isNone = false := by
      cases hfb : fn.body <;> simp_all
    simp only [callFunc, Sem.run_bind, run_program, Result.andThen_ok, hf, hn, hb, Bool.false_eq_true, if_false, Sem.run_pure]
  · cases h
end ops

end Go.Proofs.Yahagw
