/-
  Comparing words of any lengths; the laws' own comparisons.
-/
import Derived.Test.YtmlmpneikhdgcaaSlib
set_option linter.unusedVariables false
namespace Go.Proofs.Ytmlmpneikhdgcaa
open Go.RowKit

set_option maxHeartbeats 400000 in
theorem same_c {va vb : Value} {xs ys : List Int} {w : World} {Q : Ending → World → Prop} (ha : IntsAt w va xs) (hb : IntsAt w vb ys) (hQ : ∀ w', Drawn w w' → Q (.returned (.bool (decide (xs = ys)))) w') :
    Calls Try.prog 40 #[va, vb] w Q := by
  have H := Lib.hid hQ; clear hQ
  obtain ⟨aa, ca, rfl, la, lca, cca⟩ := ha.form
  obtain ⟨ab, cb, rfl, lb, lcb, ccb⟩ := hb.form
  by_cases hl : xs.length = ys.length
  · have hl' : ((xs.length : Int) != ys.length) = false := by rw [hl]; simp
    have hl'' := Lib.hid hl
    clear hl
    go_enter Try.func40, Try.ntmps40
    go_wp2
    go_loopg [14] xs.length (fun k i wr => Drawn w wr ∧ ∃ j : Nat, i = .int .i64 j ∧ Hid (xs.take j = ys.take j) ∧ j + k ≤ xs.length ∧ xs.length ≤ j + k)
    case atStart => exact ⟨Drawn.refl w, 0, rfl, Lib.hid rfl, by omega, by omega⟩
    case round =>
      obtain ⟨hw, j, rfl, hg, hk1, hk2⟩ := hrel
      by_cases hj : j < xs.length
      · have hjy : j < ys.length := by have := hl''.out; omega
        have haw := ha.drawn hw
        have hbw := hb.drawn hw
        obtain ⟨ba, oa, x, rfl, hx, hcx⟩ := haw.cell hj
        obtain ⟨bb, ob, y, rfl, hy, hcy⟩ := hbw.cell hjy
        have i1 : (j : Int) < xs.length := by omega
        have i2 : (j : Int) < ys.length := by omega
        by_cases hxy : x = y
        · subst hxy
          have hne : (x != x) = false := by simp
          go_wp2
          go_roundg (gk - 1)
          case measure => omega
          case rel => exact ⟨hw, j + 1, by go_num, Lib.hid (by rw [List.take_add_one, List.take_add_one, hx.out, hy.out, hg.out]), by omega, by omega⟩
        · have hne : (x != y) = true := by simpa using hxy
          have hf : Hid (decide (xs = ys) = false) := Lib.hid (by
            rw [decide_eq_false_iff_not]
            intro e
            have h1 := hx.out
            rw [e, hy.out] at h1
            exact hxy (Option.some.inj h1).symm)
          clear hxy
          go_wp2
          have hq := H.out _ hw
          rw [hf.out] at hq
          simpa using hq
      · go_wp2
        have e : xs = ys := by
          have h1 := hg.out
          have h2 := hl''.out
          rw [List.take_of_length_le (by omega), List.take_of_length_le (by omega)] at h1
          exact h1
        have hq := H.out _ hw
        rw [decide_eq_true e] at hq
        exact hq
  · have hl' : ((xs.length : Int) != ys.length) = true := by simp; omega
    have hf : Hid (decide (xs = ys) = false) := Lib.hid (by rw [decide_eq_false_iff_not]; intro e; exact hl (by rw [e]))
    clear hl
    go_enter Try.func40, Try.ntmps40
    go_wp2
    have hq := H.out _ (Drawn.refl w)
    rw [hf.out] at hq
    exact hq
set_option maxHeartbeats 800000 in
theorem l08Before_c {va vb : Value} {xs ys : List Int} {w : World} {Q : Ending → World → Prop} (ha : IntsAt w va xs) (hb : IntsAt w vb ys) (hQ : Q (.returned (.bool (decide (Words.cmpL xs ys < 0)))) w) :
    Calls Try.prog 73 #[va, vb] w Q := by
  have H := Lib.hid hQ; clear hQ
  obtain ⟨aa, ca, rfl, la, lca, cca⟩ := ha.form
  obtain ⟨ab, cb, rfl, lb, lcb, ccb⟩ := hb.form
  go_enter Try.func73, Try.ntmps73
  go_wp2_with fail
  go_loopg [9] xs.length (fun k i wr => Hid (wr = w) ∧ ∃ j : Nat, i = .int .i64 j ∧ Hid (Words.cmpL xs ys = Words.cmpL (xs.drop j) (ys.drop j)) ∧ j ≤ ys.length ∧ j + k ≤ xs.length ∧ xs.length ≤ j + k)
  case atStart => exact ⟨Lib.hid rfl, 0, rfl, Lib.hid rfl, by omega, by omega, by omega⟩
  case round =>
    obtain ⟨hw, j, rfl, hg, hjy, hk1, hk2⟩ := hrel
    obtain rfl := hw.out
    clear hw
    by_cases hj : j < xs.length
    · obtain ⟨ba, oa, x, rfl, hx, hcx⟩ := ha.cell hj
      have i1 : (j : Int) < xs.length := by omega
      by_cases hy0 : j < ys.length
      · obtain ⟨bb, ob, y, rfl, hy, hcy⟩ := hb.cell hy0
        have i2 : (j : Int) < ys.length := by omega
        have hst : Hid (Words.cmpL (xs.drop j) (ys.drop j) = if x < y then -1 else if y < x then 1 else Words.cmpL (xs.drop (j + 1)) (ys.drop (j + 1))) := Lib.hid (Words.cmpL_drop hx.out hy.out)
        by_cases hxy : x = y
        · subst hxy
          have hne : (x != x) = false := by simp
          have hst2 : Hid (Words.cmpL xs ys = Words.cmpL (xs.drop (j + 1)) (ys.drop (j + 1))) := Lib.hid (by rw [hg.out, hst.out]; simp)
          go_wp2_with fail
          go_roundg (gk - 1)
          case measure => omega
          case rel => exact ⟨Lib.hid rfl, j + 1, by go_num, hst2, by omega, by omega, by omega⟩
        · have hne : (x != y) = true := by simpa using hxy
          have hf : Hid (decide (Words.cmpL xs ys < 0) = decide (x < y)) := Lib.hid (by
            rw [hg.out, hst.out]
            by_cases h : x < y
            · simp [h]
            · have h2 : y < x := by omega
              simp [h, h2])
          clear hxy
          go_wp2_with fail
          exact boolq' H.out hf.out
      · have hf : Hid (decide (Words.cmpL xs ys < 0) = false) := Lib.hid (by
          rw [hg.out, List.drop_eq_nil_of_le (show ys.length ≤ j by omega)]
          obtain ⟨h1, h2⟩ := List.getElem?_eq_some_iff.1 hx.out
          rw [List.drop_eq_getElem_cons h1]
          simp [Words.cmpL])
        go_wp2_with fail
        exact boolq' H.out hf.out
    · have hf : Hid (decide (Words.cmpL xs ys < 0) = decide ((xs.length : Int) < ys.length)) := Lib.hid (by
        rw [hg.out, List.drop_eq_nil_of_le (show xs.length ≤ j by omega)]
        by_cases h : j < ys.length
        · rw [List.drop_eq_getElem_cons h]
          have : (xs.length : Int) < ys.length := by omega
          simp [Words.cmpL, this]
        · rw [List.drop_eq_nil_of_le (show ys.length ≤ j by omega)]
          have : ¬ (xs.length : Int) < ys.length := by omega
          simp [Words.cmpL, this])
      go_wp2_with fail
      exact boolq' H.out (hf.out.trans (by simp))
set_option maxHeartbeats 800000 in
theorem before_c {va vb : Value} {xs ys : List Int} {w : World} {Q : Ending → World → Prop} (ha : IntsAt w va xs) (hb : IntsAt w vb ys) (hQ : Q (.returned (.bool (decide (Words.cmpL xs ys < 0)))) w) :
    Calls Try.prog 44 #[va, vb] w Q := by
  have H := Lib.hid hQ; clear hQ
  obtain ⟨aa, ca, rfl, la, lca, cca⟩ := ha.form
  obtain ⟨ab, cb, rfl, lb, lcb, ccb⟩ := hb.form
  go_enter Try.func44, Try.ntmps44
  go_wp2_with fail
  go_loopg [9] xs.length (fun k i wr => Hid (wr = w) ∧ ∃ j : Nat, i = .int .i64 j ∧ Hid (Words.cmpL xs ys = Words.cmpL (xs.drop j) (ys.drop j)) ∧ j ≤ ys.length ∧ j + k ≤ xs.length ∧ xs.length ≤ j + k)
  case atStart => exact ⟨Lib.hid rfl, 0, rfl, Lib.hid rfl, by omega, by omega, by omega⟩
  case round =>
    obtain ⟨hw, j, rfl, hg, hjy, hk1, hk2⟩ := hrel
    obtain rfl := hw.out
    clear hw
    by_cases hj : j < xs.length
    · obtain ⟨ba, oa, x, rfl, hx, hcx⟩ := ha.cell hj
      have i1 : (j : Int) < xs.length := by omega
      by_cases hy0 : j < ys.length
      · obtain ⟨bb, ob, y, rfl, hy, hcy⟩ := hb.cell hy0
        have i2 : (j : Int) < ys.length := by omega
        have hst : Hid (Words.cmpL (xs.drop j) (ys.drop j) = if x < y then -1 else if y < x then 1 else Words.cmpL (xs.drop (j + 1)) (ys.drop (j + 1))) := Lib.hid (Words.cmpL_drop hx.out hy.out)
        by_cases hxy : x = y
        · subst hxy
          have hne : (x != x) = false := by simp
          have hst2 : Hid (Words.cmpL xs ys = Words.cmpL (xs.drop (j + 1)) (ys.drop (j + 1))) := Lib.hid (by rw [hg.out, hst.out]; simp)
          go_wp2_with fail
          go_roundg (gk - 1)
          case measure => omega
          case rel => exact ⟨Lib.hid rfl, j + 1, by go_num, hst2, by omega, by omega, by omega⟩
        · have hne : (x != y) = true := by simpa using hxy
          have hf : Hid (decide (Words.cmpL xs ys < 0) = decide (x < y)) := Lib.hid (by
            rw [hg.out, hst.out]
            by_cases h : x < y
            · simp [h]
            · have h2 : y < x := by omega
              simp [h, h2])
          clear hxy
          go_wp2_with fail
          exact boolq' H.out hf.out
      · have hf : Hid (decide (Words.cmpL xs ys < 0) = false) := Lib.hid (by
          rw [hg.out, List.drop_eq_nil_of_le (show ys.length ≤ j by omega)]
          obtain ⟨h1, h2⟩ := List.getElem?_eq_some_iff.1 hx.out
          rw [List.drop_eq_getElem_cons h1]
          simp [Words.cmpL])
        go_wp2_with fail
        exact boolq' H.out hf.out
    · have hf : Hid (decide (Words.cmpL xs ys < 0) = decide ((xs.length : Int) < ys.length)) := Lib.hid (by
        rw [hg.out, List.drop_eq_nil_of_le (show xs.length ≤ j by omega)]
        by_cases h : j < ys.length
        · rw [List.drop_eq_getElem_cons h]
          have : (xs.length : Int) < ys.length := by omega
          simp [Words.cmpL, this]
        · rw [List.drop_eq_nil_of_le (show ys.length ≤ j by omega)]
          have : ¬ (xs.length : Int) < ys.length := by omega
          simp [Words.cmpL, this])
      go_wp2_with fail
      exact boolq' H.out (hf.out.trans (by simp))
theorem lessLaw_f {va vb : Value} {xs ys : List Int} {b : Bool} (hv : decide (Words.cmpL xs ys < 0) = b) {w : World} {Q : Ending → World → Prop} (ha : IntsAt w va xs) (hb : IntsAt w vb ys) (hQ : Q (.returned (.bool b)) w) :
    Calls Try.prog 41 #[va, vb] w Q := by
  subst hv
  have H := Lib.hid hQ; clear hQ
  go_enter Try.func41, Try.ntmps41
  go_wp2_with fail
  refine before_c ha hb ?_
  go_wp2_with fail
  exact H.out
theorem lessLaw_c {va vb : Value} {xs ys : List Int} {w : World} {Q : Ending → World → Prop} (ha : IntsAt w va xs) (hb : IntsAt w vb ys) (hQ : Q (.returned (.bool (decide (Words.cmpL xs ys < 0)))) w) :
    Calls Try.prog 41 #[va, vb] w Q := by
  have H := Lib.hid hQ; clear hQ
  go_enter Try.func41, Try.ntmps41
  go_wp2_with fail
  refine before_c ha hb ?_
  go_wp2_with fail
  exact H.out
end Go.Proofs.Ytmlmpneikhdgcaa
