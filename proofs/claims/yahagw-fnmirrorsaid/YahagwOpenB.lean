/-
  A slice of bytes that came in: what is read of it.
-/
import Derived.Test.YahagwOpen
import Derived.Test.YahagwBytes
set_option linter.unusedSimpArgs false
set_option linter.unusedVariables false
namespace Go.Proofs.Yahagw
open Go.ChangeShapes Go.WideShapes Go.ChangeAt Go.RowKit

theorem open_bytes {H : Type} {enc : TypeId × Value → H} {w : World} {spare : Nat → Bool} {held : Bool} {fuel : Nat} {a0 : Option Addr} {len cap : Nat} {x : DataW H × List MemPlace}
    (h : DataW.trod enc Yagv.prog w 0 spare held fuel 22 (Value.slice a0 len cap).cells.toList = some x) : ∃ bs : Nat → Nat, BytesAt w a0 len bs := by
  rcases open_ints Yagv.underlying22 Yagv.underlying5 (by kernel_rfl) h with ⟨hcs, _⟩ | ⟨a, l, c, zs, hcs, _, hl, hm, hz, _, hcell, hwz⟩
  · simp [Value.cells] at hcs
    obtain ⟨rfl, rfl, rfl⟩ := hcs
    exact ⟨fun _ => 0, fun i hi => by omega⟩
  · simp [Value.cells] at hcs
    obtain ⟨rfl, rfl, rfl⟩ := hcs
    have hlz : len ≤ zs.length := by rw [hz]; split <;> omega
    refine ⟨fun i => (zs.getD i 0).toNat, fun i hi => ⟨a, rfl, ?_⟩⟩
    have hmem : zs.getD i 0 ∈ zs := by
      rw [List.getD_eq_getElem?_getD, List.getElem?_eq_getElem (by omega : i < zs.length)]
      simp
    have hw := hwz _ hmem
    have hr : 0 ≤ zs.getD i 0 ∧ zs.getD i 0 < 256 := by
      generalize zs.getD i 0 = z at hw
      simp [Lit.wf] at hw
      have h1 : IntKind.u8.min = 0 := by decide
      have h2 : IntKind.u8.max = 255 := by decide
      omega
    refine ⟨?_, by simp only; omega⟩
    rw [hcell i (by omega)]
    simp only
    rw [Int.toNat_of_nonneg hr.1]
end Go.Proofs.Yahagw
