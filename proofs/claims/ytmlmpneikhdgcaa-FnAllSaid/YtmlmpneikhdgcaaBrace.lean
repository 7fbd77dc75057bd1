/-
  Periods, necklaces, words of Lyndon, bracelets.
-/
import Derived.Test.YtmlmpneikhdgcaaNeck
set_option linter.unusedVariables false
namespace Go.Proofs.Ytmlmpneikhdgcaa
open Go.RowKit

set_option maxHeartbeats 1000000 in
theorem PeriodOf_i {va : Value} {xs : List Int} {w : World} {Q : Ending → World → Prop} (ha : IntsAt w va xs) (hn : xs.length ≤ 1048576)
    (hQ : ∀ w', Below w.heap.size w w' → Q (.returned (.int .i64 (Words.perI xs))) w') :
    Calls Try.prog 35 #[va] w Q := by
  have H := Lib.hid hQ; clear hQ
  have ha' := ha
  obtain ⟨ao, ca, rfl, la, lca, cca⟩ := ha'.form
  clear ha'
  cases hok : Words.okW xs with
  | false =>
    have e1 : Hid (Words.perI xs = 0) := Lib.hid (by simp [Words.perI, hok])
    go_enter Try.func35, Try.ntmps35
    go_wp2_with (go_at_call 51; refine ColoringOk_i ha ?_; rw [hok])
    exact intq' (H.out _ (Below.refl _ _)) e1.out
  | true =>
    have e1 : Hid (Words.perI xs = Words.perFrom xs (xs.length - 1) 1) := Lib.hid (by simp [Words.perI, Words.period, hok])
    have hl := Words.okW_len hok
    obtain ⟨l1, l2⟩ := hl
    go_enter Try.func35, Try.ntmps35
    go_wp2_with (go_at_call 51; refine ColoringOk_i ha ?_; rw [hok])
    clear hok
    go_loopg [3] (xs.length - 1) (fun g k wr => Below w.heap.size w wr ∧ ∃ j : Nat, k = .int .i64 j ∧ Hid (Words.perI xs = Words.perFrom xs g j) ∧ 1 ≤ j ∧ j + g ≤ xs.length ∧ xs.length ≤ j + g)
    case atStart => exact ⟨Below.refl _ _, 1, rfl, e1, by omega, by omega, by omega⟩
    case round =>
      obtain ⟨hb, j, rfl, hg, hj1, hk1, hk2⟩ := hrel
      by_cases hj : j < xs.length
      · have i1 : (j : Int) < xs.length := by omega
        have es : Hid (Words.perI xs = if xs.length % j = 0 ∧ Words.rot xs j = xs then (j : Int) else Words.perFrom xs (gk - 1) (j + 1)) := Lib.hid (by
          rw [hg.out, show gk = (gk - 1) + 1 from by omega]; simp only [Words.perFrom]; split <;> rfl)
        by_cases hz : (xs.length : Int) % j = 0
        · have hz' : ((xs.length : Int) % j == 0) = true := by rw [hz]; rfl
          have hzn : Hid (xs.length % j = 0) := Lib.hid (by omega)
          clear hz
          go_wp2_with fail
          refine rotated_i (ha.below hb) (by omega) hn ?_
          intro v1 w1 o1 b1
          go_wp2_with fail
          refine Equal_c o1.at (ha.below (hb.trans (b1.mono hb.size))) ?_
          intro w2 d2
          have hbb : Below w.heap.size w w2 := (hb.trans (b1.mono hb.size)).trans (d2.below _)
          by_cases hc : Words.rot xs j = xs
          · have hd : decide (Words.rot xs j = xs) = true := decide_eq_true hc
            have e2 : Hid (Words.perI xs = j) := Lib.hid (by rw [es.out, if_pos ⟨hzn.out, hc⟩])
            clear hc
            go_wp2
            exact intq' (H.out _ hbb) e2.out
          · have hd : decide (Words.rot xs j = xs) = false := decide_eq_false hc
            have e2 : Hid (Words.perI xs = Words.perFrom xs (gk - 1) (j + 1)) := Lib.hid (by rw [es.out, if_neg (fun h => hc h.2)])
            clear hc
            go_wp2
            go_roundg (gk - 1)
            case measure => omega
            case rel => exact ⟨hbb, j + 1, by go_num, e2, by omega, by omega, by omega⟩
        · have hz' : ((xs.length : Int) % j == 0) = false := beq_eq_false_iff_ne.2 hz
          have e2 : Hid (Words.perI xs = Words.perFrom xs (gk - 1) (j + 1)) := Lib.hid (by rw [es.out, if_neg (fun h => hz (by omega))])
          clear hz
          go_wp2
          go_roundg (gk - 1)
          case measure => omega
          case rel => exact ⟨hb, j + 1, by go_num, e2, by omega, by omega, by omega⟩
      · have e2 : Hid (Words.perI xs = xs.length) := Lib.hid (by rw [hg.out, show gk = 0 from by omega]; rfl)
        go_wp2
        exact intq' (H.out _ hb) e2.out
set_option maxHeartbeats 1000000 in
theorem PeriodOf_s {va : Value} {xs : List Int} {w : World} {Q : Ending → World → Prop} (ha : IntsAt w va xs) (hn : xs.length ≤ 1048576)
    (hQ : ∀ w', Below w.heap.size w w' → Q (.returned (.int .i64 (Words.perI xs))) w') :
    Calls Try.prog 95 #[va] w Q := by
  have H := Lib.hid hQ; clear hQ
  have ha' := ha
  obtain ⟨ao, ca, rfl, la, lca, cca⟩ := ha'.form
  clear ha'
  cases hok : Words.okW xs with
  | false =>
    have e1 : Hid (Words.perI xs = 0) := Lib.hid (by simp [Words.perI, hok])
    go_enter Try.func95, Try.ntmps95
    go_wp2_with (go_at_call 87; refine ColoringOk_s ha ?_; rw [hok])
    exact intq' (H.out _ (Below.refl _ _)) e1.out
  | true =>
    have e1 : Hid (Words.perI xs = Words.perFrom xs (xs.length - 1) 1) := Lib.hid (by simp [Words.perI, Words.period, hok])
    have hl := Words.okW_len hok
    obtain ⟨l1, l2⟩ := hl
    go_enter Try.func95, Try.ntmps95
    go_wp2_with (go_at_call 87; refine ColoringOk_s ha ?_; rw [hok])
    clear hok
    go_loopg [3] (xs.length - 1) (fun g k wr => Below w.heap.size w wr ∧ ∃ j : Nat, k = .int .i64 j ∧ Hid (Words.perI xs = Words.perFrom xs g j) ∧ 1 ≤ j ∧ j + g ≤ xs.length ∧ xs.length ≤ j + g)
    case atStart => exact ⟨Below.refl _ _, 1, rfl, e1, by omega, by omega, by omega⟩
    case round =>
      obtain ⟨hb, j, rfl, hg, hj1, hk1, hk2⟩ := hrel
      by_cases hj : j < xs.length
      · have i1 : (j : Int) < xs.length := by omega
        have es : Hid (Words.perI xs = if xs.length % j = 0 ∧ Words.rot xs j = xs then (j : Int) else Words.perFrom xs (gk - 1) (j + 1)) := Lib.hid (by
          rw [hg.out, show gk = (gk - 1) + 1 from by omega]; simp only [Words.perFrom]; split <;> rfl)
        by_cases hz : (xs.length : Int) % j = 0
        · have hz' : ((xs.length : Int) % j == 0) = true := by rw [hz]; rfl
          have hzn : Hid (xs.length % j = 0) := Lib.hid (by omega)
          clear hz
          go_wp2_with fail
          refine rotated_s (ha.below hb) (by omega) hn ?_
          intro v1 w1 o1 b1
          go_wp2_with fail
          refine l03Same_c o1.at (ha.below (hb.trans (b1.mono hb.size))) ?_
          intro w2 d2
          have hbb : Below w.heap.size w w2 := (hb.trans (b1.mono hb.size)).trans (d2.below _)
          by_cases hc : Words.rot xs j = xs
          · have hd : decide (Words.rot xs j = xs) = true := decide_eq_true hc
            have e2 : Hid (Words.perI xs = j) := Lib.hid (by rw [es.out, if_pos ⟨hzn.out, hc⟩])
            clear hc
            go_wp2
            exact intq' (H.out _ hbb) e2.out
          · have hd : decide (Words.rot xs j = xs) = false := decide_eq_false hc
            have e2 : Hid (Words.perI xs = Words.perFrom xs (gk - 1) (j + 1)) := Lib.hid (by rw [es.out, if_neg (fun h => hc h.2)])
            clear hc
            go_wp2
            go_roundg (gk - 1)
            case measure => omega
            case rel => exact ⟨hbb, j + 1, by go_num, e2, by omega, by omega, by omega⟩
        · have hz' : ((xs.length : Int) % j == 0) = false := beq_eq_false_iff_ne.2 hz
          have e2 : Hid (Words.perI xs = Words.perFrom xs (gk - 1) (j + 1)) := Lib.hid (by rw [es.out, if_neg (fun h => hz (by omega))])
          clear hz
          go_wp2
          go_roundg (gk - 1)
          case measure => omega
          case rel => exact ⟨hb, j + 1, by go_num, e2, by omega, by omega, by omega⟩
      · have e2 : Hid (Words.perI xs = xs.length) := Lib.hid (by rw [hg.out, show gk = 0 from by omega]; rfl)
        go_wp2
        exact intq' (H.out _ hb) e2.out
set_option maxHeartbeats 400000 in
theorem IsNecklace_i {va : Value} {xs : List Int} {w : World} {Q : Ending → World → Prop} (ha : IntsAt w va xs) (hn : xs.length ≤ 1048576)
    (hQ : ∀ w', Below w.heap.size w w' → Q (.returned (.bool (Words.neckB xs))) w') :
    Calls Try.prog 83 #[va] w Q := by
  have H := Lib.hid hQ; clear hQ
  go_enter Try.func83, Try.ntmps83
  go_wp2_with fail
  refine LeastRotation_i ha hn ?_
  intro v1 w1 o1 b1
  cases hok : Words.okW xs with
  | false =>
    have e1 : Hid (Words.neckB xs = false) := Lib.hid (by simp [Words.neckB, hok])
    go_wp2
    exact boolq' (H.out _ b1) e1.out
  | true =>
    have e1 : Hid (Words.neckB xs = decide (Words.lrW xs = xs)) := Lib.hid (by simp [Words.neckB, hok])
    go_wp2_with fail
    refine Equal_c o1.at (ha.below b1) ?_
    intro w2 d2
    go_wp2
    refine boolq' (H.out _ (b1.trans (d2.below _))) ?_
    rw [e1.out]
set_option maxHeartbeats 400000 in
theorem IsNecklace_s {va : Value} {xs : List Int} {w : World} {Q : Ending → World → Prop} (ha : IntsAt w va xs) (hn : xs.length ≤ 1048576)
    (hQ : ∀ w', Below w.heap.size w w' → Q (.returned (.bool (Words.neckB xs))) w') :
    Calls Try.prog 50 #[va] w Q := by
  have H := Lib.hid hQ; clear hQ
  go_enter Try.func50, Try.ntmps50
  go_wp2_with fail
  refine LeastRotation_s ha hn ?_
  intro v1 w1 o1 b1
  cases hok : Words.okW xs with
  | false =>
    have e1 : Hid (Words.neckB xs = false) := Lib.hid (by simp [Words.neckB, hok])
    go_wp2
    exact boolq' (H.out _ b1) e1.out
  | true =>
    have e1 : Hid (Words.neckB xs = (Words.lrI xs == 0)) := Lib.hid (Words.neckB_zero hok)
    go_wp2
    refine boolq' (H.out _ b1) ?_
    rw [e1.out]
set_option maxHeartbeats 400000 in
theorem IsLyndon_i {va : Value} {xs : List Int} {w : World} {Q : Ending → World → Prop} (ha : IntsAt w va xs) (hn : xs.length ≤ 1048576)
    (hQ : ∀ w', Below w.heap.size w w' → Q (.returned (.bool (Words.lynB xs))) w') :
    Calls Try.prog 43 #[va] w Q := by
  have H := Lib.hid hQ; clear hQ
  have ha' := ha
  obtain ⟨ao, ca, rfl, la, lca, cca⟩ := ha'.form
  clear ha'
  go_enter Try.func43, Try.ntmps43
  go_wp2_with fail
  refine IsNecklace_i ha hn ?_
  intro w1 b1
  cases hok : Words.neckB xs with
  | false =>
    have e1 : Hid (Words.lynB xs = false) := Lib.hid (by simp [Words.lynB, hok])
    go_wp2
    exact boolq' (H.out _ b1) e1.out
  | true =>
    have e1 : Hid (Words.lynB xs = (Words.perI xs == xs.length)) := Lib.hid (by simp [Words.lynB, hok]; rfl)
    go_wp2_with fail
    refine PeriodOf_i (ha.below b1) hn ?_
    intro w2 b2
    go_wp2
    refine boolq' (H.out _ (below_trans b1 b2)) ?_
    rw [e1.out]
set_option maxHeartbeats 400000 in
theorem IsLyndon_s {va : Value} {xs : List Int} {w : World} {Q : Ending → World → Prop} (ha : IntsAt w va xs) (hn : xs.length ≤ 1048576)
    (hQ : ∀ w', Below w.heap.size w w' → Q (.returned (.bool (Words.lynB xs))) w') :
    Calls Try.prog 67 #[va] w Q := by
  have H := Lib.hid hQ; clear hQ
  have ha' := ha
  obtain ⟨ao, ca, rfl, la, lca, cca⟩ := ha'.form
  clear ha'
  go_enter Try.func67, Try.ntmps67
  go_wp2_with fail
  refine IsNecklace_s ha hn ?_
  intro w1 b1
  cases hok : Words.neckB xs with
  | false =>
    have e1 : Hid (Words.lynB xs = false) := Lib.hid (by simp [Words.lynB, hok])
    go_wp2
    exact boolq' (H.out _ b1) e1.out
  | true =>
    have e1 : Hid (Words.lynB xs = (Words.perI xs == xs.length)) := Lib.hid (by simp [Words.lynB, hok]; rfl)
    go_wp2_with fail
    refine PeriodOf_s (ha.below b1) hn ?_
    intro w2 b2
    go_wp2
    refine boolq' (H.out _ (below_trans b1 b2)) ?_
    rw [e1.out]
set_option maxHeartbeats 800000 in
theorem LeastBracelet_i {va : Value} {xs : List Int} {w : World} {Q : Ending → World → Prop} (ha : IntsAt w va xs) (hn : xs.length ≤ 1048576)
    (hQ : ∀ v w', OwnInts w' w.heap.size v (Words.brW xs) → Below w.heap.size w w' → Q (.returned (.tuple #[v, .bool (Words.okW xs)])) w') :
    Calls Try.prog 99 #[va] w Q := by
  have H := Lib.hid hQ; clear hQ
  go_enter Try.func99, Try.ntmps99
  go_wp2_with fail
  refine LeastRotation_i ha hn ?_
  intro v1 w1 o1 b1
  cases hok : Words.okW xs with
  | false =>
    have e1 : Hid (Words.brW xs = []) := Lib.hid (by simp [Words.brW, hok])
    go_wp2
    have h := H.out (.slice none 0 0) w1 (by rw [e1.out]; exact Own.nil _ _ _) b1
    rw [hok] at h
    exact h
  | true =>
    have hlc : Hid (Words.less (Words.lrW xs.reverse) (Words.lrW xs) = decide (Words.cmpL (Words.lrW xs.reverse) (Words.lrW xs) < 0)) := Lib.hid (Words.less_cmp (by rw [Words.lrW_len (by rw [Words.okW_reverse]; exact hok), Words.lrW_len hok, List.length_reverse]))
    go_wp2_with fail
    refine mirror_i (ha.below b1) hn ?_
    intro v2 w2 o2 b2
    go_wp2_with fail
    refine LeastRotation_i o2.at (by rw [List.length_reverse]; exact hn) ?_
    intro v3 w3 o3 b3
    have hbb : Below w.heap.size w w3 := below_trans (below_trans b1 b2) b3
    go_wp2_with fail
    refine Compare_c o3.at (OwnInts.at (OwnInts.below (OwnInts.below o1 b2) b3)) ?_
    by_cases hc : Words.cmpL (Words.lrW xs.reverse) (Words.lrW xs) < 0
    · have e1 : Hid (Words.brW xs = Words.lrW xs.reverse) := Lib.hid (by unfold Words.brW; rw [if_pos hok, hlc.out, if_pos (by simpa using hc)])
      go_wp2
      have h := H.out v3 w3 (by rw [e1.out]; exact OwnInts.mono o3 (Nat.le_trans b1.size b2.size)) hbb
      rw [hok] at h
      exact h
    · have e1 : Hid (Words.brW xs = Words.lrW xs) := Lib.hid (by unfold Words.brW; rw [if_pos hok, hlc.out, if_neg (by simpa using hc)])
      go_wp2
      have h := H.out v1 w3 (by rw [e1.out]; exact OwnInts.below (OwnInts.below o1 b2) b3) hbb
      rw [hok] at h
      exact h
set_option maxHeartbeats 800000 in
theorem LeastBracelet_s {va : Value} {xs : List Int} {w : World} {Q : Ending → World → Prop} (ha : IntsAt w va xs) (hn : xs.length ≤ 1048576)
    (hQ : ∀ v w', OwnInts w' w.heap.size v (Words.brW xs) → Below w.heap.size w w' → Q (.returned (.tuple #[v, .bool (Words.okW xs)])) w') :
    Calls Try.prog 97 #[va] w Q := by
  have H := Lib.hid hQ; clear hQ
  go_enter Try.func97, Try.ntmps97
  go_wp2_with fail
  refine LeastRotation_s ha hn ?_
  intro v1 w1 o1 b1
  cases hok : Words.okW xs with
  | false =>
    have e1 : Hid (Words.brW xs = []) := Lib.hid (by simp [Words.brW, hok])
    go_wp2
    have h := H.out (.slice none 0 0) w1 (by rw [e1.out]; exact Own.nil _ _ _) b1
    rw [hok] at h
    exact h
  | true =>
    have hlc : Hid (Words.less (Words.lrW xs.reverse) (Words.lrW xs) = decide (Words.cmpL (Words.lrW xs.reverse) (Words.lrW xs) < 0)) := Lib.hid (Words.less_cmp (by rw [Words.lrW_len (by rw [Words.okW_reverse]; exact hok), Words.lrW_len hok, List.length_reverse]))
    go_wp2_with fail
    refine mirror_s (ha.below b1) hn ?_
    intro v2 w2 o2 b2
    go_wp2_with fail
    refine LeastRotation_s o2.at (by rw [List.length_reverse]; exact hn) ?_
    intro v3 w3 o3 b3
    have hbb : Below w.heap.size w w3 := below_trans (below_trans b1 b2) b3
    go_wp2_with fail
    refine l03Less_c o3.at (OwnInts.at (OwnInts.below (OwnInts.below o1 b2) b3)) (by rw [Words.lrW_len (by rw [Words.okW_reverse]; exact hok), Words.lrW_len hok, List.length_reverse]) ?_
    by_cases hc : Words.less (Words.lrW xs.reverse) (Words.lrW xs) = true
    · have e1 : Hid (Words.brW xs = Words.lrW xs.reverse) := Lib.hid (by unfold Words.brW; rw [if_pos hok, if_pos hc])
      go_wp2
      have h := H.out v3 w3 (by rw [e1.out]; exact OwnInts.mono o3 (Nat.le_trans b1.size b2.size)) hbb
      rw [hok] at h
      exact h
    · have e1 : Hid (Words.brW xs = Words.lrW xs) := Lib.hid (by unfold Words.brW; rw [if_pos hok, if_neg hc])
      have hc' : Words.less (Words.lrW xs.reverse) (Words.lrW xs) = false := by simpa using hc
      clear hc
      go_wp2
      have h := H.out v1 w3 (by rw [e1.out]; exact OwnInts.below (OwnInts.below o1 b2) b3) hbb
      rw [hok] at h
      exact h
set_option maxHeartbeats 400000 in
theorem IsBracelet_i {va : Value} {xs : List Int} {w : World} {Q : Ending → World → Prop} (ha : IntsAt w va xs) (hn : xs.length ≤ 1048576)
    (hQ : ∀ w', Below w.heap.size w w' → Q (.returned (.bool (Words.brB xs))) w') :
    Calls Try.prog 72 #[va] w Q := by
  have H := Lib.hid hQ; clear hQ
  go_enter Try.func72, Try.ntmps72
  go_wp2_with fail
  refine LeastBracelet_i ha hn ?_
  intro v1 w1 o1 b1
  cases hok : Words.okW xs with
  | false =>
    have e1 : Hid (Words.brB xs = false) := Lib.hid (by simp [Words.brB, hok])
    go_wp2
    exact boolq' (H.out _ b1) e1.out
  | true =>
    have e1 : Hid (Words.brB xs = decide (Words.brW xs = xs)) := Lib.hid (by simp [Words.brB, hok])
    go_wp2_with fail
    refine Equal_c o1.at (ha.below b1) ?_
    intro w2 d2
    go_wp2
    refine boolq' (H.out _ (b1.trans (d2.below _))) ?_
    rw [e1.out]
set_option maxHeartbeats 400000 in
theorem IsBracelet_s {va : Value} {xs : List Int} {w : World} {Q : Ending → World → Prop} (ha : IntsAt w va xs) (hn : xs.length ≤ 1048576)
    (hQ : ∀ w', Below w.heap.size w w' → Q (.returned (.bool (Words.brB xs))) w') :
    Calls Try.prog 70 #[va] w Q := by
  have H := Lib.hid hQ; clear hQ
  go_enter Try.func70, Try.ntmps70
  go_wp2_with fail
  refine LeastBracelet_s ha hn ?_
  intro v1 w1 o1 b1
  cases hok : Words.okW xs with
  | false =>
    have e1 : Hid (Words.brB xs = false) := Lib.hid (by simp [Words.brB, hok])
    go_wp2
    exact boolq' (H.out _ b1) e1.out
  | true =>
    have e1 : Hid (Words.brB xs = decide (Words.brW xs = xs)) := Lib.hid (by simp [Words.brB, hok])
    go_wp2_with fail
    refine l03Same_c o1.at (ha.below b1) ?_
    intro w2 d2
    go_wp2
    refine boolq' (H.out _ (b1.trans (d2.below _))) ?_
    rw [e1.out]
set_option maxHeartbeats 800000 in
theorem IsMirrored_i {va : Value} {xs : List Int} {w : World} {Q : Ending → World → Prop} (ha : IntsAt w va xs) (hn : xs.length ≤ 1048576)
    (hQ : ∀ w', Below w.heap.size w w' → Q (.returned (.bool (Words.mirB xs))) w') :
    Calls Try.prog 36 #[va] w Q := by
  have H := Lib.hid hQ; clear hQ
  go_enter Try.func36, Try.ntmps36
  go_wp2_with fail
  refine LeastRotation_i ha hn ?_
  intro v1 w1 o1 b1
  cases hok : Words.okW xs with
  | false =>
    have e1 : Hid (Words.mirB xs = false) := Lib.hid (by simp [Words.mirB, hok])
    go_wp2
    exact boolq' (H.out _ b1) e1.out
  | true =>
    have e1 : Hid (Words.mirB xs = decide (Words.lrW xs = Words.lrW xs.reverse)) := Lib.hid (by simp [Words.mirB, hok])
    go_wp2_with fail
    refine mirror_i (ha.below b1) hn ?_
    intro v2 w2 o2 b2
    go_wp2_with fail
    refine LeastRotation_i o2.at (by rw [List.length_reverse]; exact hn) ?_
    intro v3 w3 o3 b3
    go_wp2_with fail
    refine Equal_c (OwnInts.at (OwnInts.below (OwnInts.below o1 b2) b3)) o3.at ?_
    intro w4 d4
    go_wp2
    refine boolq' (H.out _ ((below_trans (below_trans b1 b2) b3).trans (d4.below _))) ?_
    rw [e1.out]
end Go.Proofs.Ytmlmpneikhdgcaa
