/-
  The proof of 'Rows.FnExactAnalyzeSaid', by the guide's frame.
-/
import Derived.Test.YahagwRows
import Derived.Test.YahagwOpen
import Derived.Test.YahagwLawEA
import Derived.WalkKit
import Derived.ProofKit
import Derived.ShutString
import Derived.ChangeOld
import Derived.Below
namespace Go.Proofs.Yahagw.fnExactAnalyze
open Go.ChangeShapes Go.WideShapes Go.ChangeAt Go.RowKit
open Go.ChangeMaps (open_string shut_string)
set_option linter.unusedVariables false

theorem own : ownKnob Yagv.prog.godebug = none := by kernel_rfl
theorem laidOut : laidOutB Yagv.prog = true := by kernel_rfl

theorem walk (a0 : Option Addr) (cap0 : Nat) (L : List IOp) (w : World) (hops : OpsAt w a0 L) :
    Calls Yagv.prog 13 #[.slice a0 L.length cap0] w fun e w' => e = .returned (.bool true) ∧ Below w.heap.size w w' :=
  (exactAnalyze_walk w a0 L cap0 hops (R := fun v w' => v = .bool true ∧ Below w.heap.size w w') (fun w' hb => ⟨rfl, hb⟩)).out.mono fun e w' h => by
    obtain ⟨v, rfl, rfl, hb⟩ := h
    exact ⟨rfl, hb⟩

set_option maxRecDepth 100000 in
theorem lifted (os : Os) (started : os.Started) (H : Type) (enc : TypeId × Value → H) :
    ReturnsInHanded {} Yagv.checked os 13 .any (Rows.fnExactAnalyzeSpec.pre6 enc Yagv.prog Yagv.f13 Rows.fnExactAnalyzeRow.domain false) (Rows.fnExactAnalyzeSpec.post enc Yagv.prog Yagv.f13 false true false false) := by
  refine returnsInHanded_of_change (C := Yagv.checked) own started (by kernel_rfl) Yagv.func13
    (ChangeSpec.witness6 (enc := enc) (C := Yagv.checked) false ⟨#[], #[.slice none 0 0], []⟩ 8 (by kernel_rfl) (by kernel_rfl) (by kernel_rfl) (by kernel_rfl)) ?_
  intro W base args ds gs before hval0 hW hcnd _
  have hval : ∀ (j : Nat) t v, Yagv.f13.params[j]? = some t → args[j]? = some v → Value.okWide Yagv.prog W .any base t v := hval0
  have hW' := hW
  obtain ⟨p, q, hA0, hV, rfl, hfz, hnd⟩ := hW
  have hA : DataW.TrodAll enc Yagv.prog W 0 (fun _ => true) true Yagv.f13.params.toList args.toList ds p := hA0
  rw [Yagv.params13] at hA hval
  obtain ⟨v0, vs0, d0, ds0, p0, q0, hargs, rfl, rfl, h0, r0⟩ := trodAll_cons hA
  obtain ⟨rfl, rfl, rfl⟩ := trodAll_nil r0
  obtain rfl : args = #[v0] := by cases args; simp_all
  obtain ⟨rfl, rfl⟩ := trodVars_none hV
  obtain ⟨a0, len0, cap0, rfl⟩ := okWide_slice Yagv.underlying39 (hval 0 39 v0 rfl rfl)
  have k0 := h0
  have lt0 : ∀ x ∈ p0, x.block < W.heap.size := by obtain ⟨m, hm⟩ := k0; exact DataW.trod_lt m _ _ _ hm
  obtain ⟨L0, hl0, w0⟩ : ∃ L : List IOp, L.length = len0 ∧ OpsAt W a0 L := by
    obtain ⟨fuel, hf⟩ := h0
    exact open_ops hf
  subst hl0
  clear hA0 hval0
  refine (walk a0 cap0 L0 W w0).mono fun e W' ⟨he, bel⟩ => ?_
  subst he
  exact ⟨_, rfl, _, _, _, [], _, [], hW', trodAll_mk1 (shut_bool Yagv.underlying4 _), (trodAll_mk1 (Below.trod laidOut (by kernel_rfl) (of_decide_eq_true (by kernel_rfl)) k0 bel lt0)), rfl, bel.frame _, fun h => by cases h⟩

theorem over : Rows.fnExactAnalyzeRow.holds Yagv.pinned (OpenSpec.ofChange Rows.fnExactAnalyzeSpec) :=
  OpenClaim.holds_of_wide 13 Yagv.f13 rfl rfl rfl rfl rfl rfl rfl ⟨rfl, rfl, rfl, rfl, rfl⟩ rfl rfl rfl rfl rfl (by kernel_rfl) Yagv.func13 (by kernel_rfl)
    (of_decide_eq_true (by kernel_rfl)) (by unfold Func.isWrapper; first | (rw [if_pos (by decide +kernel)]; kernel_rfl) | (rw [if_neg (by decide +kernel)]; exact ⟨rfl, rfl⟩))
    (fun os started H enc _ => lifted os started H enc)

theorem proved : Rows.FnExactAnalyzeSaid := over
end Go.Proofs.Yahagw.fnExactAnalyze
