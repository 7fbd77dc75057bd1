/-
  From a law's contract to its row: how arguments are opened.
-/
import Derived.Test.YtnghikcmdihagaaDrawn
import Derived.Test.YtnghikcmdihagaaMem
import Derived.Test.YtnghikcmdihagaaRows
import Derived.ProofKit
import Derived.OpenShut
import Derived.SizedLaws
import Derived.Carry
set_option linter.unusedVariables false
namespace Go.Proofs.Ytnghikcmdihagaa
open Go.ChangeShapes Go.WideShapes Go.ChangeAt Go.RowKit

theorem Try.own : ownKnob Try.prog.godebug = none := by kernel_rfl
theorem Try.laidOut : laidOutB Try.prog = true := by kernel_rfl
theorem Try.cellsInt : Try.prog.cellsOf 3 = 1 := by kernel_rfl
theorem spot_none {w : World} {b off : Nat} {spot : Option Nat} {x : Value} (h : w.cell? ((⟨b, off, spot⟩ : Addr).add 0) = some x) : spot = none := by simpa [Addr.add] using World.cell?_spot h
theorem cell_add {w : World} {b off i : Nat} {x : Value} (h : w.cell? ((⟨b, off, none⟩ : Addr).add i) = some x) : w.cell? ⟨b, off + i, none⟩ = some x := by
  have e : (⟨b, off, none⟩ : Addr).add i = ⟨b, off + i, none⟩ := by unfold Addr.add; split <;> simp_all
  rw [← e]; exact h
/-- A slice of integers that came in. -/
theorem ints_of_trod {H : Type} {enc : TypeId × Value → H} {W : World} {base : Nat} {spare : Nat → Bool} {held : Bool} {v : Value} {d : DataW H} {p : List MemPlace}
    (h : DataW.Trod enc Try.prog W base spare held 22 v d p) (hv : ∃ a n c, v = .slice a n c) : ∃ xs, IntsAt W v xs := by
  obtain ⟨a0, n0, c0, rfl⟩ := hv
  obtain ⟨fuel, hf⟩ := h
  rcases open_ints Try.underlying22 Try.underlying3 Try.cellsInt hf with ⟨hcs, hx⟩ | ⟨a, len, cap, zs, hcs, _, hl, hm, hz, hx, hcell, hwz⟩
  · simp [Value.cells] at hcs
    obtain ⟨rfl, rfl, rfl⟩ := hcs
    exact ⟨[], none, 0, rfl, Nat.le_refl _, by unfold maxLen; omega, fun _ => rfl, fun k x hk => by simp [ints] at hk⟩
  · simp [Value.cells] at hcs
    obtain ⟨rfl, rfl, rfl⟩ := hcs
    have hlz : n0 ≤ zs.length := by rw [hz]; split <;> omega
    refine ⟨zs.take n0, some a, c0, ?_, ?_, hm, (fun h => by cases h), fun k x hk => ?_⟩
    · rw [ints_len, List.length_take, Nat.min_eq_left hlz]
    · rw [ints_len, List.length_take]; omega
    · obtain ⟨b, off, spot⟩ := a
      have hk' : k < n0 := by have := (List.getElem?_eq_some_iff.1 hk).1; rw [ints_len, List.length_take] at this; omega
      obtain rfl := spot_none (hcell 0 (by omega))
      have hc := cell_add (hcell k (by omega))
      refine ⟨b, off, rfl, ?_⟩
      rw [hc]
      rw [ints_get, List.getElem?_take, if_pos hk', List.getElem?_eq_getElem (by omega)] at hk
      rw [← hk]
      simp [List.getD, List.getElem?_eq_getElem (show k < zs.length by omega)]
end Go.Proofs.Ytnghikcmdihagaa
