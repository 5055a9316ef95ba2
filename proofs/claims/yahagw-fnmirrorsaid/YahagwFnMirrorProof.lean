/-
  The proof of 'Rows.FnMirrorSaid', by the guide's frame.
-/
import Derived.Test.YahagwRows
import Derived.Test.YahagwOpenB
import Derived.Test.YahagwLawMi
import Derived.WalkKit
import Derived.ProofKit
import Derived.ShutString
import Derived.ChangeOld
import Derived.Below
namespace Go.Proofs.Yahagw.fnMirror
open Go.ChangeShapes Go.WideShapes Go.ChangeAt Go.RowKit
open Go.ChangeMaps (open_string shut_string)
set_option linter.unusedVariables false

theorem own : ownKnob Yagv.prog.godebug = none := by kernel_rfl
theorem laidOut : laidOutB Yagv.prog = true := by kernel_rfl

theorem walk (a0 : Option Addr) (len0 cap0 : Nat) (bs : Nat → Nat) (w : World) (hby : BytesAt w a0 len0 bs) :
    Calls Yagv.prog 8 #[.slice a0 len0 cap0] w fun e w' => e = .returned (.bool true) ∧ Below w.heap.size w w' :=
  (mirror_walk w a0 len0 cap0 bs hby (R := fun v w' => v = .bool true ∧ Below w.heap.size w w') (fun w' hb => ⟨rfl, hb⟩)).out.mono fun e w' h => by
    obtain ⟨v, rfl, rfl, hb⟩ := h
    exact ⟨rfl, hb⟩

set_option maxRecDepth 100000 in
theorem lifted (os : Os) (started : os.Started) (H : Type) (enc : TypeId × Value → H) :
    ReturnsInHanded {} Yagv.checked os 8 .any (Rows.fnMirrorSpec.pre6 enc Yagv.prog Yagv.f8 Rows.fnMirrorRow.domain false) (Rows.fnMirrorSpec.post enc Yagv.prog Yagv.f8 false true false false) := by
  refine returnsInHanded_of_change (C := Yagv.checked) own started (by kernel_rfl) Yagv.func8
    (ChangeSpec.witness6 (enc := enc) (C := Yagv.checked) false ⟨#[], #[.slice none 0 0], []⟩ 8 (by kernel_rfl) (by kernel_rfl) (by kernel_rfl) (by kernel_rfl)) ?_
  intro W base args ds gs before hval0 hW hcnd _
  have hval : ∀ (j : Nat) t v, Yagv.f8.params[j]? = some t → args[j]? = some v → Value.okWide Yagv.prog W .any base t v := hval0
  have hW' := hW
  obtain ⟨p, q, hA0, hV, rfl, hfz, hnd⟩ := hW
  have hA : DataW.TrodAll enc Yagv.prog W 0 (fun _ => true) true Yagv.f8.params.toList args.toList ds p := hA0
  rw [Yagv.params8] at hA hval
  obtain ⟨v0, vs0, d0, ds0, p0, q0, hargs, rfl, rfl, h0, r0⟩ := trodAll_cons hA
  obtain ⟨rfl, rfl, rfl⟩ := trodAll_nil r0
  obtain rfl : args = #[v0] := by cases args; simp_all
  obtain ⟨rfl, rfl⟩ := trodVars_none hV
  obtain ⟨a0, len0, cap0, rfl⟩ := okWide_slice Yagv.underlying22 (hval 0 22 v0 rfl rfl)
  have k0 := h0
  have lt0 : ∀ x ∈ p0, x.block < W.heap.size := by obtain ⟨m, hm⟩ := k0; exact DataW.trod_lt m _ _ _ hm
  obtain ⟨bs, w0⟩ : ∃ bs : Nat → Nat, BytesAt W a0 len0 bs := by
    obtain ⟨fuel, hf⟩ := h0
    exact open_bytes hf
  clear hA0 hval0
  refine (walk a0 len0 cap0 bs W w0).mono fun e W' ⟨he, bel⟩ => ?_
  subst he
  exact ⟨_, rfl, _, _, _, [], _, [], hW', trodAll_mk1 (shut_bool Yagv.underlying4 _), (trodAll_mk1 (Below.trod laidOut (by kernel_rfl) (of_decide_eq_true (by kernel_rfl)) k0 bel lt0)), rfl, bel.frame _, fun h => by cases h⟩

theorem over : Rows.fnMirrorRow.holds Yagv.pinned (OpenSpec.ofChange Rows.fnMirrorSpec) :=
  OpenClaim.holds_of_wide 8 Yagv.f8 rfl rfl rfl rfl rfl rfl rfl ⟨rfl, rfl, rfl, rfl, rfl⟩ rfl rfl rfl rfl rfl (by kernel_rfl) Yagv.func8 (by kernel_rfl)
    (of_decide_eq_true (by kernel_rfl)) (by unfold Func.isWrapper; first | (rw [if_pos (by decide +kernel)]; kernel_rfl) | (rw [if_neg (by decide +kernel)]; exact ⟨rfl, rfl⟩))
    (fun os started H enc _ => lifted os started H enc)

theorem proved : Rows.FnMirrorSaid := over
end Go.Proofs.Yahagw.fnMirror
