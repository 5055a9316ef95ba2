/-
  impl.Analyze as a machine over true counts; the program's own counts are these, cut at the cap.
-/
import Derived.Test.YahagwSm
set_option linter.unusedVariables false
set_option linter.unusedSimpArgs false
namespace Go.Proofs.Yahagw

abbrev Fl := Option (Nat × Nat × Nat)
def lexLt (x y : Nat × Nat × Nat) : Prop := x.1 < y.1 ∨ (x.1 = y.1 ∧ (x.2.1 < y.2.1 ∨ (x.2.1 = y.2.1 ∧ x.2.2 < y.2.2)))
def lexB (x y : Nat × Nat × Nat) : Bool := decide (x.1 < y.1) || (decide (x.1 = y.1) && (decide (x.2.1 < y.2.1) || (decide (x.2.1 = y.2.1) && decide (x.2.2 < y.2.2))))
theorem lexB_iff (x y : Nat × Nat × Nat) : lexB x y = true ↔ lexLt x y := by
  simp [lexB, lexLt]
def noteF (f : Fl) (x : Nat × Nat × Nat) : Fl := match f with
  | none => some x
  | some y => if lexB x y = true then some x else some y
def lowB (m : Nat) : Nat := ((List.range 8).find? fun h => m.testBit h).getD 0

/-- the counts behind one new, use or move, of the sets below k -/
def goes (o : IOp) (k m : Nat) : Bool := match stepM o k with | .inl q => decide (q = m) | .inr _ => false
def nxt (o : IOp) (c : Nat → Nat) : Nat → Nat → Nat
  | 0, _ => 0
  | k + 1, m => nxt o c k m + (if goes o k m = true then c k else 0)
def flt (o : IOp) (c : Nat → Nat) (i : Nat) (f : Fl) : Nat → Fl
  | 0 => f
  | k + 1 => if c k = 0 then flt o c i f k else (match stepM o k with | .inl _ => flt o c i f k | .inr (kd, h) => noteF (flt o c i f k) (i, kd, h))
def lks (c : Nat → Nat) (i : Nat) (f : Fl) : Nat → Fl
  | 0 => f
  | k + 1 => if 0 < k ∧ 0 < c k then noteF (lks c i f k) (i, 3, lowB k) else lks c i f k

structure St where
  cnt : Nat → Nat
  tot : Nat
def st0 : St := ⟨fun _ => 0, 0⟩
structure Fr where
  e : St
  t : St
  inE : Bool
structure MS where
  cur : St
  et : Nat
  ec : Nat
  f : Fl
  stk : List Fr
def mStep (o : IOp) (i : Nat) (s : MS) : MS :=
  if o.c = 1 ∨ o.c = 2 ∨ o.c = 3 then { s with cur := ⟨nxt o s.cur.cnt 256, s.cur.tot⟩, f := flt o s.cur.cnt i s.f 256 }
  else if o.c = 4 then { s with cur := st0, et := s.et + s.cur.tot, ec := s.ec + s.cur.cnt 0, f := lks s.cur.cnt i s.f 256 }
  else if o.c = 5 then { s with stk := ⟨s.cur, st0, false⟩ :: s.stk }
  else if o.c = 6 then (match s.stk with
    | fr :: r => { s with cur := fr.e, stk := ⟨fr.e, s.cur, true⟩ :: r }
    | [] => s)
  else (match s.stk with
    | fr :: r => { s with cur := ⟨fun m => s.cur.cnt m + fr.t.cnt m, s.cur.tot + fr.t.tot⟩, stk := r }
    | [] => s)
def mGo : List IOp → Nat → MS → MS
  | [], _, s => s
  | o :: r, i, s => mGo r (i + 1) (mStep o i s)
def one0 : Nat → Nat := fun m => if m = 0 then 1 else 0
def ms0 : MS := ⟨⟨one0, 1⟩, 0, 0, none, []⟩

structure Rep where
  ok : Bool
  kind : Int
  pos : Int
  handle : Int
  paths : Nat
  clean : Nat
def capN : Nat := 1000000000000000000
def sgN (n : Nat) : Nat := min n capN
def repOf (f : Fl) (paths clean : Nat) : Rep := match f with
  | none => ⟨true, 0, -1, -1, sgN paths, sgN paths⟩
  | some (p, k, h) => ⟨false, k, p, h, sgN paths, sgN clean⟩
def mRep (n : Nat) (s : MS) : Rep := repOf (lks s.cur.cnt n s.f 256) (s.et + s.cur.tot) (s.ec + s.cur.cnt 0)
def badRep (q : Int) : Rep := ⟨false, 4, q, -1, 0, 0⟩
def analyzeR (L : List IOp) : Rep := if 0 ≤ firstBad L then badRep (firstBad L) else mRep L.length (mGo L 0 ms0)

theorem mGo_at {L : List IOp} {k : Nat} {o : IOp} (ho : L[k]? = some o) (s : MS) : mGo (L.drop k) k s = mGo (L.drop (k + 1)) (k + 1) (mStep o k s) := by
  rw [drop_cons ho, mGo]
end Go.Proofs.Yahagw
