/-
  The library's functions on slices of integers, and the reference's own.
-/
import Derived.Test.YtdjdagcgodpgdaaGreatMem
import Derived.Test.YtdjdagcgodpgdaaGreatWords
import Derived.Deep.RegionLaw
set_option linter.unusedVariables false
namespace Go.Proofs.YtdjdagcgodpgdaaGreat
open Go.RowKit

set_option maxHeartbeats 400000 in
theorem Equal_c {va vb : Value} {xs ys : List Int} {w : World} {Q : Ending → World → Prop} (ha : IntsAt w va xs) (hb : IntsAt w vb ys) (hQ : ∀ w', Drawn w w' → Q (.returned (.bool (decide (xs = ys)))) w') :
    Calls Tryz.prog 42 #[va, vb] w Q := by
  have H := Lib.hid hQ; clear hQ
  obtain ⟨aa, ca, rfl, la, lca, cca⟩ := ha.form
  obtain ⟨ab, cb, rfl, lb, lcb, ccb⟩ := hb.form
  by_cases hl : xs.length = ys.length
  · have hl' : ((xs.length : Int) != ys.length) = false := by rw [hl]; simp
    have hl'' := Lib.hid hl
    clear hl
    go_enter Tryz.func42, Tryz.ntmps42
    go_wp2
    go_loopg [13] xs.length (fun k i wr => Drawn w wr ∧ ∃ j : Nat, i = .int .i64 j ∧ Hid (xs.take j = ys.take j) ∧ j + k ≤ xs.length ∧ xs.length ≤ j + k)
    case atStart => exact ⟨Drawn.refl w, 0, rfl, Lib.hid rfl, by omega, by omega⟩
    case round =>
      obtain ⟨hw, j, rfl, hg, hk1, hk2⟩ := hrel
      by_cases hj : j < xs.length
      · have hjy : j < ys.length := by have := hl''.out; omega
        have haw := ha.drawn hw
        have hbw := hb.drawn hw
        obtain ⟨ba, oa, x, rfl, hx, hcx⟩ := haw.cell hj
        obtain ⟨bb, ob, y, rfl, hy, hcy⟩ := hbw.cell hjy
        have i1 : (j : Int) < xs.length := by omega
        have i2 : (j : Int) < ys.length := by omega
        by_cases hxy : x = y
        · subst hxy
          have hne : (x != x) = false := by simp
          go_wp2
          go_quiet (fail)
          go_wp2
          go_roundg (gk - 1)
          case measure => omega
          case rel => exact ⟨(hw.next nq), j + 1, by go_num, Lib.hid (by rw [List.take_add_one, List.take_add_one, hx.out, hy.out, hg.out]), by omega, by omega⟩
        · have hne : (x != y) = true := by simpa using hxy
          have hf : Hid (decide (xs = ys) = false) := Lib.hid (by
            rw [decide_eq_false_iff_not]
            intro e
            have h1 := hx.out
            rw [e, hy.out] at h1
            exact hxy (Option.some.inj h1).symm)
          clear hxy
          go_wp2
          go_quiet (fail)
          go_wp2
          have hq := H.out _ (hw.next nq)
          rw [hf.out] at hq
          simpa using hq
      · go_wp2
        have e : xs = ys := by
          have h1 := hg.out
          have h2 := hl''.out
          rw [List.take_of_length_le (by omega), List.take_of_length_le (by omega)] at h1
          exact h1
        have hq := H.out _ hw
        rw [decide_eq_true e] at hq
        exact hq
  · have hl' : ((xs.length : Int) != ys.length) = true := by simp; omega
    have hf : Hid (decide (xs = ys) = false) := Lib.hid (by rw [decide_eq_false_iff_not]; intro e; exact hl (by rw [e]))
    clear hl
    go_enter Tryz.func42, Tryz.ntmps42
    go_wp2
    have hq := H.out _ (Drawn.refl w)
    rw [hf.out] at hq
    exact hq
set_option maxHeartbeats 400000 in
theorem l03Same_c {va vb : Value} {xs ys : List Int} {w : World} {Q : Ending → World → Prop} (ha : IntsAt w va xs) (hb : IntsAt w vb ys) (hQ : ∀ w', Drawn w w' → Q (.returned (.bool (decide (xs = ys)))) w') :
    Calls Tryz.prog 46 #[va, vb] w Q := by
  have H := Lib.hid hQ; clear hQ
  obtain ⟨aa, ca, rfl, la, lca, cca⟩ := ha.form
  obtain ⟨ab, cb, rfl, lb, lcb, ccb⟩ := hb.form
  by_cases hl : xs.length = ys.length
  · have hl' : ((xs.length : Int) != ys.length) = false := by rw [hl]; simp
    have hl'' := Lib.hid hl
    clear hl
    go_enter Tryz.func46, Tryz.ntmps46
    go_wp2
    go_loopg [14] xs.length (fun k i wr => Drawn w wr ∧ ∃ j : Nat, i = .int .i64 j ∧ Hid (xs.take j = ys.take j) ∧ j + k ≤ xs.length ∧ xs.length ≤ j + k)
    case atStart => exact ⟨Drawn.refl w, 0, rfl, Lib.hid rfl, by omega, by omega⟩
    case round =>
      obtain ⟨hw, j, rfl, hg, hk1, hk2⟩ := hrel
      by_cases hj : j < xs.length
      · have hjy : j < ys.length := by have := hl''.out; omega
        have haw := ha.drawn hw
        have hbw := hb.drawn hw
        obtain ⟨ba, oa, x, rfl, hx, hcx⟩ := haw.cell hj
        obtain ⟨bb, ob, y, rfl, hy, hcy⟩ := hbw.cell hjy
        have i1 : (j : Int) < xs.length := by omega
        have i2 : (j : Int) < ys.length := by omega
        by_cases hxy : x = y
        · subst hxy
          have hne : (x != x) = false := by simp
          go_wp2
          go_roundg (gk - 1)
          case measure => omega
          case rel => exact ⟨hw, j + 1, by go_num, Lib.hid (by rw [List.take_add_one, List.take_add_one, hx.out, hy.out, hg.out]), by omega, by omega⟩
        · have hne : (x != y) = true := by simpa using hxy
          have hf : Hid (decide (xs = ys) = false) := Lib.hid (by
            rw [decide_eq_false_iff_not]
            intro e
            have h1 := hx.out
            rw [e, hy.out] at h1
            exact hxy (Option.some.inj h1).symm)
          clear hxy
          go_wp2
          have hq := H.out _ hw
          rw [hf.out] at hq
          simpa using hq
      · go_wp2
        have e : xs = ys := by
          have h1 := hg.out
          have h2 := hl''.out
          rw [List.take_of_length_le (by omega), List.take_of_length_le (by omega)] at h1
          exact h1
        have hq := H.out _ hw
        rw [decide_eq_true e] at hq
        exact hq
  · have hl' : ((xs.length : Int) != ys.length) = true := by simp; omega
    have hf : Hid (decide (xs = ys) = false) := Lib.hid (by rw [decide_eq_false_iff_not]; intro e; exact hl (by rw [e]))
    clear hl
    go_enter Tryz.func46, Tryz.ntmps46
    go_wp2
    have hq := H.out _ (Drawn.refl w)
    rw [hf.out] at hq
    exact hq
set_option maxHeartbeats 400000 in
theorem l03Less_c {va vb : Value} {xs ys : List Int} {w : World} {Q : Ending → World → Prop} (ha : IntsAt w va xs) (hb : IntsAt w vb ys) (hl : xs.length = ys.length) (hQ : Q (.returned (.bool (Words.less xs ys))) w) :
    Calls Tryz.prog 45 #[va, vb] w Q := by
  have H := Lib.hid hQ; clear hQ
  obtain ⟨aa, ca, rfl, la, lca, cca⟩ := ha.form
  obtain ⟨ab, cb, rfl, lb, lcb, ccb⟩ := hb.form
  have hl'' := Lib.hid hl
  clear hl
  go_enter Tryz.func45, Tryz.ntmps45
  go_wp2
  go_loopg [9] xs.length (fun k i wr => Hid (wr = w) ∧ ∃ j : Nat, i = .int .i64 j ∧ Hid (Words.less (xs.drop j) (ys.drop j) = Words.less xs ys) ∧ j + k ≤ xs.length ∧ xs.length ≤ j + k)
  case atStart => exact ⟨Lib.hid rfl, 0, rfl, Lib.hid rfl, by omega, by omega⟩
  case round =>
    obtain ⟨hw, j, rfl, hg, hk1, hk2⟩ := hrel
    obtain rfl := hw.out
    clear hw
    by_cases hj : j < xs.length
    · have hjy : j < ys.length := by have := hl''.out; omega
      obtain ⟨ba, oa, x, rfl, hx, hcx⟩ := ha.cell hj
      obtain ⟨bb, ob, y, rfl, hy, hcy⟩ := hb.cell hjy
      have i1 : (j : Int) < xs.length := by omega
      have i2 : (j : Int) < ys.length := by omega
      have es : Hid (Words.less xs ys = if x ≠ y then decide (x < y) else Words.less (xs.drop (j + 1)) (ys.drop (j + 1))) := Lib.hid (by
        rw [← hg.out]; exact Words.less_drop hx.out hy.out)
      by_cases hxy : x = y
      · subst hxy
        have hne : (x != x) = false := by simp
        go_wp2
        go_roundg (gk - 1)
        case measure => omega
        case rel => exact ⟨Lib.hid rfl, j + 1, by go_num, Lib.hid (by rw [es.out, if_neg (by simp)]), by omega, by omega⟩
      · have hne : (x != y) = true := by simpa using hxy
        have es' : Hid (Words.less xs ys = decide (x < y)) := Lib.hid (by rw [es.out, if_pos hxy])
        clear hxy
        go_wp2
        have hq := H.out
        rw [es'.out] at hq
        simpa using hq
    · go_wp2
      have hq := H.out
      rw [← hg.out, Words.drop_end (by omega)] at hq
      exact hq
set_option maxHeartbeats 400000 in
theorem cmpInt_c {x y : Int} {w : World} {Q : Ending → World → Prop} (hQ : Q (.returned (.int .i64 (if x < y then -1 else if y < x then 1 else 0))) w) :
    Calls Tryz.prog 81 #[.int .i64 x, .int .i64 y] w Q := by
  have H := Lib.hid hQ; clear hQ
  go_enter Tryz.func81, Tryz.ntmps81
  go_wp2
  all_goals go_tidy
  · refine intq' H.out ?_
    rw [if_pos (by assumption)]
  · refine intq' H.out ?_
    rw [if_neg (by omega), if_pos (by assumption)]
  · refine intq' H.out ?_
    rw [if_neg (by omega), if_neg (by omega)]
set_option maxHeartbeats 800000 in
theorem Compare_c {va vb : Value} {xs ys : List Int} {w : World} {Q : Ending → World → Prop} (ha : IntsAt w va xs) (hb : IntsAt w vb ys) (hQ : Q (.returned (.int .i64 (Words.cmpL xs ys))) w) :
    Calls Tryz.prog 52 #[va, vb] w Q := by
  have H := Lib.hid hQ; clear hQ
  obtain ⟨aa, ca, rfl, la, lca, cca⟩ := ha.form
  obtain ⟨ab, cb, rfl, lb, lcb, ccb⟩ := hb.form
  go_enter Tryz.func52, Tryz.ntmps52
  go_wp2_with fail
  go_loopg [11] xs.length (fun k i wr => Hid (wr = w) ∧ ∃ j : Nat, i = .int .i64 j ∧ Hid (Words.cmpL (xs.drop j) (ys.drop j) = Words.cmpL xs ys) ∧ Hid (j ≤ ys.length) ∧ j + k ≤ xs.length ∧ xs.length ≤ j + k)
  case atStart => exact ⟨Lib.hid rfl, 0, rfl, Lib.hid rfl, Lib.hid (Nat.zero_le _), by omega, by omega⟩
  case round =>
    obtain ⟨hw, j, rfl, hg, hjy0, hk1, hk2⟩ := hrel
    obtain rfl := hw.out
    clear hw
    by_cases hj : j < xs.length
    · obtain ⟨ba, oa, x, rfl, hx, hcx⟩ := ha.cell hj
      have i1 : (j : Int) < xs.length := by omega
      by_cases hjy : j < ys.length
      · obtain ⟨bb, ob, y, rfl, hy, hcy⟩ := hb.cell hjy
        have i2 : (j : Int) < ys.length := by omega
        have es : Hid (Words.cmpL xs ys = if x < y then -1 else if y < x then 1 else Words.cmpL (xs.drop (j + 1)) (ys.drop (j + 1))) := Lib.hid (by
          rw [← hg.out]; exact Words.cmpL_drop hx.out hy.out)
        by_cases hlt : x < y
        · have ec : Hid ((if x < y then (-1 : Int) else if y < x then 1 else 0) = -1) := Lib.hid (if_pos hlt)
          have es' : Hid (Words.cmpL xs ys = -1) := Lib.hid (by rw [es.out, if_pos hlt])
          clear hlt es
          go_wp2_with (go_at_call 81; refine cmpInt_c ?_; rw [ec.out])
          exact intq' H.out es'.out
        · by_cases hgt : y < x
          · have ec : Hid ((if x < y then (-1 : Int) else if y < x then 1 else 0) = 1) := Lib.hid (by rw [if_neg hlt, if_pos hgt])
            have es' : Hid (Words.cmpL xs ys = 1) := Lib.hid (by rw [es.out, if_neg hlt, if_pos hgt])
            clear hlt hgt es
            go_wp2_with (go_at_call 81; refine cmpInt_c ?_; rw [ec.out])
            exact intq' H.out es'.out
          · have ec : Hid ((if x < y then (-1 : Int) else if y < x then 1 else 0) = 0) := Lib.hid (by rw [if_neg hlt, if_neg hgt])
            have es' : Hid (Words.cmpL (xs.drop (j + 1)) (ys.drop (j + 1)) = Words.cmpL xs ys) := Lib.hid (by rw [es.out, if_neg hlt, if_neg hgt])
            clear hlt hgt es
            go_wp2_with (go_at_call 81; refine cmpInt_c ?_; rw [ec.out])
            go_roundg (gk - 1)
            case measure => omega
            case rel => exact ⟨Lib.hid rfl, j + 1, by go_num, es', Lib.hid hjy, by omega, by omega⟩
      · have i2 : (ys.length : Int) ≤ j := by omega
        have es' : Hid (Words.cmpL xs ys = 1) := Lib.hid (by
          rw [← hg.out, Words.drop_end (xs := ys) (by omega), List.drop_eq_getElem_cons hj]; rfl)
        go_wp2_with fail
        exact intq' H.out es'.out
    · have hle := hjy0.out
      have es' : Hid (Words.cmpL xs ys = if xs.length < ys.length then -1 else 0) := Lib.hid (by
        rw [← hg.out, Words.drop_end (xs := xs) (by omega)]
        by_cases h : xs.length < ys.length
        · rw [if_pos h, List.drop_eq_getElem_cons (by omega)]; rfl
        · rw [if_neg h, Words.drop_end (by omega)]; rfl)
      by_cases h : xs.length < ys.length
      · have h' : (xs.length : Int) < ys.length := by omega
        go_wp2_with fail
        refine intq' H.out ?_
        rw [es'.out, if_pos h]
      · have h' : ¬ (xs.length : Int) < ys.length := by omega
        go_wp2_with fail
        refine intq' H.out ?_
        rw [es'.out, if_neg h]
set_option maxHeartbeats 400000 in
theorem Clone_c {va : Value} {xs : List Int} {w : World} {Q : Ending → World → Prop} (ha : IntsAt w va xs) (hn : xs.length ≤ 17592186044416)
    (hQ : ∀ v w', OwnInts w' w.heap.size v xs → Below w.heap.size w w' → Q (.returned v) w') :
    Calls Tryz.prog 75 #[va] w Q := by
  have H := Lib.hid hQ; clear hQ
  have ha' := ha
  obtain ⟨aa, ca, rfl, la, lca, cca⟩ := ha'.form
  rcases RowAt.addr ha with ⟨rfl, hl, rfl, hx⟩ | ⟨a, rfl, hz, hc⟩
  · have hx0 : xs = [] := by cases xs; rfl; simp [ints] at hx
    subst hx0
    have hnil := fun w => Lib.run_eql_slice_nil (P := Tryz.prog) w 36 3 none 0 0 0 0 Tryz.underlying36
    go_enter Tryz.func75, Tryz.ntmps75
    go_wp2
    exact H.out _ _ (Own.nil _ _ _) (Below.refl _ _)
  · have hnil := fun w => Lib.run_eql_slice_nil (P := Tryz.prog) w 36 3 (some a) xs.length ca 0 0 Tryz.underlying36
    have ho := own_empty w
    have hrow := IntsAt.below ha (below_alloc w (.cells #[] 3))
    clear hc hz
    go_enter Tryz.func75, Tryz.ntmps75
    go_wp2_with (at_builtin; refine app_ints rfl (.tmp 5) (.tmp 6) rfl rfl ho rfl hrow (by simp; omega) (by simp) ?_; intro v' w' h2 h3)
    exact H.out _ _ h2 ((below_alloc w _).grown h3 (by simp) (fun k hk => by cases hk; simp))
end Go.Proofs.YtdjdagcgodpgdaaGreat
