/-
  Words: whether they are valid, turned, reversed.
-/
import Derived.Test.YtblifocccpfmkaaSlib
import Derived.Test.YtblifocccpfmkaaInts
set_option linter.unusedVariables false
namespace Go.Proofs.Ytblifocccpfmkaa
open Go.RowKit

set_option maxHeartbeats 400000 in
theorem ColoringOk_i {va : Value} {xs : List Int} {w : World} {Q : Ending → World → Prop} (ha : IntsAt w va xs) (hQ : Q (.returned (.bool (Words.okW xs))) w) :
    Calls Try.prog 42 #[va] w Q := by
  have H := Lib.hid hQ; clear hQ
  obtain ⟨aa, ca, rfl, la, lca, cca⟩ := ha.form
  go_enter Try.func42, Try.ntmps42
  go_wp2
  go_loopg [7] xs.length (fun k i wr => Hid (wr = w) ∧ ∃ j : Nat, i = .int .i64 j ∧ Hid ((xs.take j).all Words.okC = true) ∧ j + k ≤ xs.length ∧ xs.length ≤ j + k)
  case atStart => exact ⟨Lib.hid rfl, 0, rfl, Lib.hid rfl, by omega, by omega⟩
  case round =>
    obtain ⟨hw, j, rfl, hg, hk1, hk2⟩ := hrel
    obtain rfl := hw.out
    clear hw
    by_cases hj : j < xs.length
    · obtain ⟨ba, oa, x, rfl, hx, hcx⟩ := ha.cell hj
      have i1 : (j : Int) < xs.length := by omega
      by_cases hx0 : 0 ≤ x ∧ x ≤ 3
      · obtain ⟨x0, x1⟩ := hx0
        have hs : Hid ((xs.take (j + 1)).all Words.okC = true) := Lib.hid (by
          rw [List.take_add_one, hx.out, List.all_append, hg.out]; simp [Words.okC, x0, x1])
        go_wp2
        go_roundg (gk - 1)
        case measure => omega
        case rel => exact ⟨Lib.hid rfl, j + 1, by go_num, hs, by omega, by omega⟩
      · have hf : Hid (Words.okW xs = false) := Lib.hid (Words.okW_bad hx.out hx0)
        go_wp2
        all_goals exact boolq' H.out hf.out
    · have hl : xs.take j = xs := List.take_of_length_le (by omega)
      have he : Hid (Words.okW xs = decide (1 ≤ xs.length ∧ xs.length ≤ 10)) := Lib.hid (by
        have := hg.out; rw [hl] at this; unfold Words.okW; rw [this, Bool.and_true])
      clear hl
      go_wp2
      all_goals
        refine boolq' H.out ?_
        rw [he.out, Bool.eq_iff_iff]
        simp
        try omega
set_option maxHeartbeats 400000 in
theorem ColoringOk_s {va : Value} {xs : List Int} {w : World} {Q : Ending → World → Prop} (ha : IntsAt w va xs) (hQ : Q (.returned (.bool (Words.okW xs))) w) :
    Calls Try.prog 54 #[va] w Q := by
  have H := Lib.hid hQ; clear hQ
  obtain ⟨aa, ca, rfl, la, lca, cca⟩ := ha.form
  go_enter Try.func54, Try.ntmps54
  go_wp2_with fail
  go_loopg [7] xs.length (fun k i wr => Hid (wr = w) ∧ ∃ j : Nat, i = .int .i64 j ∧ Hid ((xs.take j).all Words.okC = true) ∧ j + k ≤ xs.length ∧ xs.length ≤ j + k)
  case atStart => exact ⟨Lib.hid rfl, 0, rfl, Lib.hid rfl, by omega, by omega⟩
  case round =>
    obtain ⟨hw, j, rfl, hg, hk1, hk2⟩ := hrel
    obtain rfl := hw.out
    clear hw
    by_cases hj : j < xs.length
    · obtain ⟨ba, oa, x, rfl, hx, hcx⟩ := ha.cell hj
      have i1 : (j : Int) < xs.length := by omega
      by_cases hx0 : 0 ≤ x ∧ x ≤ 3
      · have hd : Hid (decide (0 ≤ x ∧ x ≤ 3) = true) := Lib.hid (decide_eq_true hx0)
        obtain ⟨x0, x1⟩ := hx0
        have hs : Hid ((xs.take (j + 1)).all Words.okC = true) := Lib.hid (by
          rw [List.take_add_one, hx.out, List.all_append, hg.out]; simp [Words.okC, x0, x1])
        go_wp2_with (go_at_call 47; refine l01In_c ?_; rw [hd.out])
        go_roundg (gk - 1)
        case measure => omega
        case rel => exact ⟨Lib.hid rfl, j + 1, by go_num, hs, by omega, by omega⟩
      · have hf : Hid (Words.okW xs = false) := Lib.hid (Words.okW_bad hx.out hx0)
        have hd : Hid (decide (0 ≤ x ∧ x ≤ 3) = false) := Lib.hid (decide_eq_false hx0)
        clear hx0
        go_wp2_with (go_at_call 47; refine l01In_c ?_; rw [hd.out])
        exact boolq' H.out hf.out
    · have hl : xs.take j = xs := List.take_of_length_le (by omega)
      have he : Hid (Words.okW xs = decide (1 ≤ (xs.length : Int) ∧ (xs.length : Int) ≤ 10)) := Lib.hid (by
        have := hg.out; rw [hl] at this; unfold Words.okW; rw [this, Bool.and_true, Bool.eq_iff_iff]; simp; omega)
      clear hl
      go_wp2_with (go_at_call 47; refine l01In_c ?_; rw [← he.out])
      exact H.out
end Go.Proofs.Ytblifocccpfmkaa
