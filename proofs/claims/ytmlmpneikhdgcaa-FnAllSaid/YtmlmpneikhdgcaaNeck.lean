/-
  Least rotations, periods, and what follows from them.
-/
import Derived.Test.YtmlmpneikhdgcaaRev
import Derived.Test.YtmlmpneikhdgcaaLyn
set_option linter.unusedVariables false
namespace Go.Proofs.Ytmlmpneikhdgcaa
open Go.RowKit

set_option maxHeartbeats 400000 in
theorem RotateWord_i {va : Value} {xs : List Int} {k : Int} {w : World} {Q : Ending → World → Prop} (ha : IntsAt w va xs) (hn : xs.length ≤ 1048576)
    (hQ : ∀ v w', OwnInts w' w.heap.size v (Words.rotW xs k) → Below w.heap.size w w' → Q (.returned (.tuple #[v, .bool (Words.rotOk xs k)])) w') :
    Calls Try.prog 38 #[va, .int .i64 k] w Q := by
  have H := Lib.hid hQ; clear hQ
  have ha' := ha
  obtain ⟨ao, ca, rfl, la, lca, cca⟩ := ha'.form
  clear ha'
  cases hok : Words.okW xs with
  | false =>
    have e1 : Hid (Words.rotOk xs k = false) := Lib.hid (by simp [Words.rotOk, hok])
    have e2 : Hid (Words.rotW xs k = []) := Lib.hid (by simp [Words.rotW, Words.rotOk, hok])
    go_enter Try.func38, Try.ntmps38
    go_wp2_with (go_at_call 51; refine ColoringOk_i ha ?_; rw [hok])
    have h := H.out (.slice none 0 0) w (by rw [e2.out]; exact Own.nil _ _ _) (Below.refl _ _)
    rw [e1.out] at h
    exact h
  | true =>
    by_cases hk : 0 ≤ k ∧ k < xs.length
    · obtain ⟨m, rfl⟩ : ∃ m : Nat, k = m := ⟨k.toNat, by omega⟩
      have e1 : Hid (Words.rotOk xs m = true) := Lib.hid (by simp [Words.rotOk, hok]; omega)
      have e2 : Hid (Words.rotW xs m = Words.rot xs m) := Lib.hid (by unfold Words.rotW; rw [e1.out]; simp)
      have hd : Hid (decide (0 ≤ (m : Int) ∧ (m : Int) ≤ (xs.length : Int) - 1) = true) := Lib.hid (by simp; omega)
      obtain ⟨k1, k2⟩ := hk
      go_enter Try.func38, Try.ntmps38
      go_wp2_with (first | (go_at_call 51; refine ColoringOk_i ha ?_; rw [hok]) | (go_at_call 81; refine rotated_i ha (by omega) hn ?_; intro v1 w1 o1 b1))
      have h := H.out v1 w1 (by rw [e2.out]; exact o1) b1
      rw [e1.out] at h
      exact h
    · have e1 : Hid (Words.rotOk xs k = false) := Lib.hid (by simp [Words.rotOk]; intro _; omega)
      have e2 : Hid (Words.rotW xs k = []) := Lib.hid (by unfold Words.rotW; rw [e1.out]; simp)
      have hd : Hid (decide (0 ≤ k ∧ k ≤ (xs.length : Int) - 1) = false) := Lib.hid (decide_eq_false (by omega))
      have hfin : Hid (Q (.returned (.tuple #[.slice none 0 0, .bool false])) w) := Lib.hid (by
        have h := H.out (.slice none 0 0) w (by rw [e2.out]; exact Own.nil _ _ _) (Below.refl _ _)
        rw [e1.out] at h
        exact h)
      go_enter Try.func38, Try.ntmps38
      go_wp2_with (first | (go_at_call 51; refine ColoringOk_i ha ?_; rw [hok]))
      all_goals exact hfin.out
set_option maxHeartbeats 1000000 in
theorem LeastRotation_i {va : Value} {xs : List Int} {w : World} {Q : Ending → World → Prop} (ha : IntsAt w va xs) (hn : xs.length ≤ 1048576)
    (hQ : ∀ v w', OwnInts w' w.heap.size v (Words.lrW xs) → Below w.heap.size w w' → Q (.returned (.tuple #[v, .int .i64 (Words.lrI xs), .bool (Words.okW xs)])) w') :
    Calls Try.prog 37 #[va] w Q := by
  have H := Lib.hid hQ; clear hQ
  have ha' := ha
  obtain ⟨ao, ca, rfl, la, lca, cca⟩ := ha'.form
  clear ha'
  cases hok : Words.okW xs with
  | false =>
    have e1 : Hid (Words.lrI xs = 0) := Lib.hid (by simp [Words.lrI, hok])
    have e2 : Hid (Words.lrW xs = []) := Lib.hid (by simp [Words.lrW, hok])
    go_enter Try.func37, Try.ntmps37
    go_wp2_with (go_at_call 51; refine ColoringOk_i ha ?_; rw [hok])
    have h := H.out (.slice none 0 0) w (by rw [e2.out]; exact Own.nil _ _ _) (Below.refl _ _)
    rw [e1.out, hok] at h
    go_ret3
    exact h
  | true =>
    have e1 : Hid (Words.lrI xs = Words.lrTo xs xs.length) := Lib.hid (by simp [Words.lrI, hok])
    have e2 : Hid (Words.lrW xs = Words.rot xs (Words.lrTo xs xs.length)) := Lib.hid (by simp [Words.lrW, hok])
    go_enter Try.func37, Try.ntmps37
    go_wp2_with (go_at_call 51; refine ColoringOk_i ha ?_; rw [hok])
    have hok' := Lib.hid hok
    clear hok
    go_loopg [5, 12] xs.length (fun g b i wr => Below w.heap.size w wr ∧ ∃ j m : Nat, i = .int .i64 j ∧ b = .int .i64 m ∧ Hid (m = Words.lrTo xs j) ∧ Hid (m = 0 ∨ m < j) ∧ j + g ≤ xs.length ∧ xs.length ≤ j + g)
    case atStart => exact ⟨Below.refl _ _, 0, 0, rfl, rfl, Lib.hid rfl, Lib.hid (.inl rfl), by omega, by omega⟩
    case round =>
      obtain ⟨hb, j, m, rfl, rfl, hm, hmj, hk1, hk2⟩ := hrel
      by_cases hj : j < xs.length
      · have i1 : (j : Int) < xs.length := by omega
        have hml : m ≤ xs.length := by have := hmj.out; omega
        go_wp2_with fail
        refine rotated_i (ha.below hb) (by omega) hn ?_
        intro v1 w1 o1 b1
        go_wp2_with fail
        refine rotated_i (ha.below (hb.trans (b1.mono hb.size))) hml hn ?_
        intro v2 w2 o2 b2
        have hbb : Below w.heap.size w w2 := (hb.trans (b1.mono hb.size)).trans (b2.mono (hb.trans (b1.mono hb.size)).size)
        go_wp2_with fail
        refine Compare_c ((o1.below b2).at) o2.at ?_
        have es : Words.lrTo xs (j + 1) = if Words.less (Words.rot xs j) (Words.rot xs (Words.lrTo xs j)) then j else Words.lrTo xs j := rfl
        rw [← hm.out, Words.less_cmp (by rw [Words.rot_len _ (by omega), Words.rot_len _ hml])] at es
        have es' := Lib.hid es
        clear es
        by_cases hc : Words.cmpL (Words.rot xs j) (Words.rot xs m) < 0
        · have ec : Hid (Words.lrTo xs (j + 1) = j) := Lib.hid (by rw [es'.out, if_pos (by simpa using hc)])
          go_wp2
          go_roundg (gk - 1)
          case measure => omega
          case rel => exact ⟨hbb, j + 1, j, by go_num, rfl, Lib.hid ec.out.symm, Lib.hid (.inr (by omega)), by omega, by omega⟩
        · have ec : Hid (Words.lrTo xs (j + 1) = m) := Lib.hid (by rw [es'.out, if_neg (by simpa using hc)])
          go_wp2
          go_roundg (gk - 1)
          case measure => omega
          case rel => exact ⟨hbb, j + 1, m, by go_num, rfl, Lib.hid ec.out.symm, Lib.hid (by have := hmj.out; omega), by omega, by omega⟩
      · have em : Hid (m = Words.lrTo xs xs.length) := Lib.hid (by rw [hm.out, show j = xs.length from by omega])
        have hml : m ≤ xs.length := by have := hmj.out; omega
        go_wp2_with (go_at_call 81; refine rotated_i (ha.below hb) hml hn ?_; intro v1 w1 o1 b1)
        have h := H.out v1 w1 (by rw [e2.out, ← em.out]; exact OwnInts.mono o1 hb.size) (hb.trans (b1.mono hb.size))
        rw [e1.out, ← em.out, hok'.out] at h
        go_ret3
        exact h
set_option maxHeartbeats 1000000 in
theorem LeastRotation_s {va : Value} {xs : List Int} {w : World} {Q : Ending → World → Prop} (ha : IntsAt w va xs) (hn : xs.length ≤ 1048576)
    (hQ : ∀ v w', OwnInts w' w.heap.size v (Words.lrW xs) → Below w.heap.size w w' → Q (.returned (.tuple #[v, .int .i64 (Words.lrI xs), .bool (Words.okW xs)])) w') :
    Calls Try.prog 63 #[va] w Q := by
  have H := Lib.hid hQ; clear hQ
  have ha' := ha
  obtain ⟨ao, ca, rfl, la, lca, cca⟩ := ha'.form
  clear ha'
  cases hok : Words.okW xs with
  | false =>
    have e1 : Hid (Words.lrI xs = 0) := Lib.hid (by simp [Words.lrI, hok])
    have e2 : Hid (Words.lrW xs = []) := Lib.hid (by simp [Words.lrW, hok])
    go_enter Try.func63, Try.ntmps63
    go_wp2_with (go_at_call 87; refine ColoringOk_s ha ?_; rw [hok])
    have h := H.out (.slice none 0 0) w (by rw [e2.out]; exact Own.nil _ _ _) (Below.refl _ _)
    rw [e1.out, hok] at h
    go_ret3
    exact h
  | true =>
    have e1 : Hid (Words.lrI xs = Words.lrTo xs xs.length) := Lib.hid (by simp [Words.lrI, hok])
    have e2 : Hid (Words.lrW xs = Words.rot xs (Words.lrTo xs xs.length)) := Lib.hid (by simp [Words.lrW, hok])
    go_enter Try.func63, Try.ntmps63
    go_wp2_with (go_at_call 87; refine ColoringOk_s ha ?_; rw [hok])
    have hok' := Lib.hid hok
    clear hok
    go_loopg [5, 12] xs.length (fun g b i wr => Below w.heap.size w wr ∧ ∃ j m : Nat, i = .int .i64 j ∧ b = .int .i64 m ∧ Hid (m = Words.lrTo xs j) ∧ Hid (m = 0 ∨ m < j) ∧ j + g ≤ xs.length ∧ xs.length ≤ j + g)
    case atStart => exact ⟨Below.refl _ _, 0, 0, rfl, rfl, Lib.hid rfl, Lib.hid (.inl rfl), by omega, by omega⟩
    case round =>
      obtain ⟨hb, j, m, rfl, rfl, hm, hmj, hk1, hk2⟩ := hrel
      by_cases hj : j < xs.length
      · have i1 : (j : Int) < xs.length := by omega
        have hml : m ≤ xs.length := by have := hmj.out; omega
        go_wp2_with fail
        refine rotated_s (ha.below hb) (by omega) hn ?_
        intro v1 w1 o1 b1
        go_wp2_with fail
        refine rotated_s (ha.below (hb.trans (b1.mono hb.size))) hml hn ?_
        intro v2 w2 o2 b2
        have hbb : Below w.heap.size w w2 := (hb.trans (b1.mono hb.size)).trans (b2.mono (hb.trans (b1.mono hb.size)).size)
        go_wp2_with fail
        refine l03Less_c ((o1.below b2).at) o2.at (by rw [Words.rot_len _ (by omega), Words.rot_len _ (by omega)]) ?_
        have es : Words.lrTo xs (j + 1) = if Words.less (Words.rot xs j) (Words.rot xs (Words.lrTo xs j)) then j else Words.lrTo xs j := rfl
        rw [← hm.out] at es
        have es' := Lib.hid es
        clear es
        cases hc : Words.less (Words.rot xs j) (Words.rot xs m) with
        | true =>
          have ec : Hid (Words.lrTo xs (j + 1) = j) := Lib.hid (by rw [es'.out, if_pos hc])
          go_wp2
          go_roundg (gk - 1)
          case measure => omega
          case rel => exact ⟨hbb, j + 1, j, by go_num, rfl, Lib.hid ec.out.symm, Lib.hid (.inr (by omega)), by omega, by omega⟩
        | false =>
          have ec : Hid (Words.lrTo xs (j + 1) = m) := Lib.hid (by rw [es'.out, if_neg (by rw [hc]; simp)])
          go_wp2
          go_roundg (gk - 1)
          case measure => omega
          case rel => exact ⟨hbb, j + 1, m, by go_num, rfl, Lib.hid ec.out.symm, Lib.hid (by have := hmj.out; omega), by omega, by omega⟩
      · have em : Hid (m = Words.lrTo xs xs.length) := Lib.hid (by rw [hm.out, show j = xs.length from by omega])
        have hml : m ≤ xs.length := by have := hmj.out; omega
        go_wp2_with (go_at_call 93; refine rotated_s (ha.below hb) hml hn ?_; intro v1 w1 o1 b1)
        have h := H.out v1 w1 (by rw [e2.out, ← em.out]; exact OwnInts.mono o1 hb.size) (hb.trans (b1.mono hb.size))
        rw [e1.out, ← em.out, hok'.out] at h
        go_ret3
        exact h
end Go.Proofs.Ytmlmpneikhdgcaa
