/-
  Words: whether they are valid, turned, reversed.
-/
import Derived.Test.YtmlmpneikhdgcaaSlib
import Derived.Test.YtmlmpneikhdgcaaInts
set_option linter.unusedVariables false
namespace Go.Proofs.Ytmlmpneikhdgcaa
open Go.RowKit

set_option maxHeartbeats 400000 in
theorem rotated_s {va : Value} {xs : List Int} {k : Nat} {w : World} {Q : Ending → World → Prop} (ha : IntsAt w va xs) (hk : k ≤ xs.length) (hn : xs.length ≤ 1048576)
    (hQ : ∀ v w', OwnInts w' w.heap.size v (Words.rot xs k) → Below w.heap.size w w' → Q (.returned v) w') :
    Calls Try.prog 93 #[va, .int .i64 k] w Q := by
  have H := Lib.hid hQ; clear hQ
  have ha' := ha
  obtain ⟨ao, ca, rfl, la, lca, cca⟩ := ha'.form
  clear ha'
  have bd' : Below w.heap.size w ((w.alloc (.cells #[] 3)).drew) := ((Below.refl w.heap.size w).alloc (Nat.le_refl _) _).drew
  have ht : IntsAt (w.alloc (.cells #[] 3)).drew _ _ := IntsAt.below (IntsAt.tail ha hk) bd'
  have hu := IntsAt.upto ha hk
  have ho : OwnInts (w.alloc (.cells #[] 3)).drew w.heap.size (.slice (some ⟨w.heap.size, 0, none⟩) 0 0) [] := own_empty w
  have hkc : k ≤ ca := by omega
  go_enter Try.func93, Try.ntmps93
  go_wp2
  go_region_law (first
    | (refine step_app_ints rfl (.tmp 5) (.tmp 8) rfl rfl ho rfl ht (by simp; omega) (by simp) ?_; intro v1 w1 o1 g1; change World.grownBy _ w1 (some w.heap.size) at g1; have b1 : Below w.heap.size w w1 := bd'.grown g1 (by simp) (by intro k hk; cases hk; exact Nat.le_refl _))
    | (refine step_app_ints rfl (.tmp 9) (.tmp 12) rfl rfl o1 rfl (hu.below b1) (by simp; omega) b1.size ?_; intro v2 w2 o2 g2; change World.grownBy _ w2 v1.ownBlock at g2))
  go_wp2
  all_goals exact H.out _ _ o2 (b1.grown g2 b1.size (fun k hk => (Own.lt o1 hk).1))
set_option maxHeartbeats 400000 in
theorem ColoringOk_i {va : Value} {xs : List Int} {w : World} {Q : Ending → World → Prop} (ha : IntsAt w va xs) (hQ : Q (.returned (.bool (Words.okW xs))) w) :
    Calls Try.prog 51 #[va] w Q := by
  have H := Lib.hid hQ; clear hQ
  obtain ⟨aa, ca, rfl, la, lca, cca⟩ := ha.form
  go_enter Try.func51, Try.ntmps51
  go_wp2
  go_loopg [7] xs.length (fun k i wr => Hid (wr = w) ∧ ∃ j : Nat, i = .int .i64 j ∧ Hid ((xs.take j).all Words.okC = true) ∧ j + k ≤ xs.length ∧ xs.length ≤ j + k)
  case atStart => exact ⟨Lib.hid rfl, 0, rfl, Lib.hid rfl, by omega, by omega⟩
  case round =>
    obtain ⟨hw, j, rfl, hg, hk1, hk2⟩ := hrel
    obtain rfl := hw.out
    clear hw
    by_cases hj : j < xs.length
    · obtain ⟨ba, oa, x, rfl, hx, hcx⟩ := ha.cell hj
      have i1 : (j : Int) < xs.length := by omega
      by_cases hx0 : 0 ≤ x ∧ x ≤ 3
      · obtain ⟨x0, x1⟩ := hx0
        have hs : Hid ((xs.take (j + 1)).all Words.okC = true) := Lib.hid (by
          rw [List.take_add_one, hx.out, List.all_append, hg.out]; simp [Words.okC, x0, x1])
        go_wp2
        go_roundg (gk - 1)
        case measure => omega
        case rel => exact ⟨Lib.hid rfl, j + 1, by go_num, hs, by omega, by omega⟩
      · have hf : Hid (Words.okW xs = false) := Lib.hid (Words.okW_bad hx.out hx0)
        go_wp2
        all_goals exact boolq' H.out hf.out
    · have hl : xs.take j = xs := List.take_of_length_le (by omega)
      have he : Hid (Words.okW xs = decide (1 ≤ xs.length ∧ xs.length ≤ 10)) := Lib.hid (by
        have := hg.out; rw [hl] at this; unfold Words.okW; rw [this, Bool.and_true])
      clear hl
      go_wp2
      all_goals
        refine boolq' H.out ?_
        rw [he.out, Bool.eq_iff_iff]
        simp
        try omega
set_option maxHeartbeats 400000 in
theorem ColoringOk_s {va : Value} {xs : List Int} {w : World} {Q : Ending → World → Prop} (ha : IntsAt w va xs) (hQ : Q (.returned (.bool (Words.okW xs))) w) :
    Calls Try.prog 87 #[va] w Q := by
  have H := Lib.hid hQ; clear hQ
  obtain ⟨aa, ca, rfl, la, lca, cca⟩ := ha.form
  go_enter Try.func87, Try.ntmps87
  go_wp2_with fail
  go_loopg [7] xs.length (fun k i wr => Hid (wr = w) ∧ ∃ j : Nat, i = .int .i64 j ∧ Hid ((xs.take j).all Words.okC = true) ∧ j + k ≤ xs.length ∧ xs.length ≤ j + k)
  case atStart => exact ⟨Lib.hid rfl, 0, rfl, Lib.hid rfl, by omega, by omega⟩
  case round =>
    obtain ⟨hw, j, rfl, hg, hk1, hk2⟩ := hrel
    obtain rfl := hw.out
    clear hw
    by_cases hj : j < xs.length
    · obtain ⟨ba, oa, x, rfl, hx, hcx⟩ := ha.cell hj
      have i1 : (j : Int) < xs.length := by omega
      by_cases hx0 : 0 ≤ x ∧ x ≤ 3
      · have hd : Hid (decide (0 ≤ x ∧ x ≤ 3) = true) := Lib.hid (decide_eq_true hx0)
        obtain ⟨x0, x1⟩ := hx0
        have hs : Hid ((xs.take (j + 1)).all Words.okC = true) := Lib.hid (by
          rw [List.take_add_one, hx.out, List.all_append, hg.out]; simp [Words.okC, x0, x1])
        go_wp2_with (go_at_call 57; refine l01In_c ?_; rw [hd.out])
        go_roundg (gk - 1)
        case measure => omega
        case rel => exact ⟨Lib.hid rfl, j + 1, by go_num, hs, by omega, by omega⟩
      · have hf : Hid (Words.okW xs = false) := Lib.hid (Words.okW_bad hx.out hx0)
        have hd : Hid (decide (0 ≤ x ∧ x ≤ 3) = false) := Lib.hid (decide_eq_false hx0)
        clear hx0
        go_wp2_with (go_at_call 57; refine l01In_c ?_; rw [hd.out])
        exact boolq' H.out hf.out
    · have hl : xs.take j = xs := List.take_of_length_le (by omega)
      have he : Hid (Words.okW xs = decide (1 ≤ (xs.length : Int) ∧ (xs.length : Int) ≤ 10)) := Lib.hid (by
        have := hg.out; rw [hl] at this; unfold Words.okW; rw [this, Bool.and_true, Bool.eq_iff_iff]; simp; omega)
      clear hl
      go_wp2_with (go_at_call 57; refine l01In_c ?_; rw [← he.out])
      exact H.out
end Go.Proofs.Ytmlmpneikhdgcaa
