/-
  Part 3 of 8 of what the law FnSolids rests on.
-/
import Derived.Test.YtdjdagcgodpgdaaMo2
import Derived.Deep.RegionLaw
set_option maxRecDepth 20000
/- The library's functions on slices of integers, and the reference's own. -/
set_option linter.unusedVariables false
namespace Go.Proofs.Ytdjdagcgodpgdaa
open Go.RowKit

set_option maxHeartbeats 400000 in
theorem Equal_c {va vb : Value} {xs ys : List Int} {w : World} {Q : Ending → World → Prop} (ha : IntsAt w va xs) (hb : IntsAt w vb ys) (hQ : ∀ w', Drawn w w' → Q (.returned (.bool (decide (xs = ys)))) w') :
    Calls Try.prog 65 #[va, vb] w Q := by
  have H := Lib.hid hQ; clear hQ
  obtain ⟨aa, ca, rfl, la, lca, cca⟩ := ha.form
  obtain ⟨ab, cb, rfl, lb, lcb, ccb⟩ := hb.form
  by_cases hl : xs.length = ys.length
  · have hl' : ((xs.length : Int) != ys.length) = false := by rw [hl]; simp
    have hl'' := Lib.hid hl
    clear hl
    go_enter Try.func65, Try.ntmps65
    go_wp2
    go_loopg [13] xs.length (fun k i wr => Drawn w wr ∧ ∃ j : Nat, i = .int .i64 j ∧ Hid (xs.take j = ys.take j) ∧ j + k ≤ xs.length ∧ xs.length ≤ j + k)
    case atStart => exact ⟨Drawn.refl w, 0, rfl, Lib.hid rfl, by omega, by omega⟩
    case round =>
      obtain ⟨hw, j, rfl, hg, hk1, hk2⟩ := hrel
      by_cases hj : j < xs.length
      · have hjy : j < ys.length := by have := hl''.out; omega
        have haw := ha.drawn hw
        have hbw := hb.drawn hw
        obtain ⟨ba, oa, x, rfl, hx, hcx⟩ := haw.cell hj
        obtain ⟨bb, ob, y, rfl, hy, hcy⟩ := hbw.cell hjy
        have i1 : (j : Int) < xs.length := by omega
        have i2 : (j : Int) < ys.length := by omega
        by_cases hxy : x = y
        · subst hxy
          have hne : (x != x) = false := by simp
          go_wp2
          go_quiet (fail)
          go_wp2
          go_roundg (gk - 1)
          case measure => omega
          case rel => exact ⟨(hw.next nq), j + 1, by go_num, Lib.hid (by rw [List.take_add_one, List.take_add_one, hx.out, hy.out, hg.out]), by omega, by omega⟩
        · have hne : (x != y) = true := by simpa using hxy
          have hf : Hid (decide (xs = ys) = false) := Lib.hid (by
            rw [decide_eq_false_iff_not]
            intro e
            have h1 := hx.out
            rw [e, hy.out] at h1
            exact hxy (Option.some.inj h1).symm)
          clear hxy
          go_wp2
          go_quiet (fail)
          go_wp2
          have hq := H.out _ (hw.next nq)
          rw [hf.out] at hq
          simpa using hq
      · go_wp2
        have e : xs = ys := by
          have h1 := hg.out
          have h2 := hl''.out
          rw [List.take_of_length_le (by omega), List.take_of_length_le (by omega)] at h1
          exact h1
        have hq := H.out _ hw
        rw [decide_eq_true e] at hq
        exact hq
  · have hl' : ((xs.length : Int) != ys.length) = true := by simp; omega
    have hf : Hid (decide (xs = ys) = false) := Lib.hid (by rw [decide_eq_false_iff_not]; intro e; exact hl (by rw [e]))
    clear hl
    go_enter Try.func65, Try.ntmps65
    go_wp2
    have hq := H.out _ (Drawn.refl w)
    rw [hf.out] at hq
    exact hq
set_option maxHeartbeats 400000 in
theorem l03Same_c {va vb : Value} {xs ys : List Int} {w : World} {Q : Ending → World → Prop} (ha : IntsAt w va xs) (hb : IntsAt w vb ys) (hQ : ∀ w', Drawn w w' → Q (.returned (.bool (decide (xs = ys)))) w') :
    Calls Try.prog 88 #[va, vb] w Q := by
  have H := Lib.hid hQ; clear hQ
  obtain ⟨aa, ca, rfl, la, lca, cca⟩ := ha.form
  obtain ⟨ab, cb, rfl, lb, lcb, ccb⟩ := hb.form
  by_cases hl : xs.length = ys.length
  · have hl' : ((xs.length : Int) != ys.length) = false := by rw [hl]; simp
    have hl'' := Lib.hid hl
    clear hl
    go_enter Try.func88, Try.ntmps88
    go_wp2
    go_loopg [14] xs.length (fun k i wr => Drawn w wr ∧ ∃ j : Nat, i = .int .i64 j ∧ Hid (xs.take j = ys.take j) ∧ j + k ≤ xs.length ∧ xs.length ≤ j + k)
    case atStart => exact ⟨Drawn.refl w, 0, rfl, Lib.hid rfl, by omega, by omega⟩
    case round =>
      obtain ⟨hw, j, rfl, hg, hk1, hk2⟩ := hrel
      by_cases hj : j < xs.length
      · have hjy : j < ys.length := by have := hl''.out; omega
        have haw := ha.drawn hw
        have hbw := hb.drawn hw
        obtain ⟨ba, oa, x, rfl, hx, hcx⟩ := haw.cell hj
        obtain ⟨bb, ob, y, rfl, hy, hcy⟩ := hbw.cell hjy
        have i1 : (j : Int) < xs.length := by omega
        have i2 : (j : Int) < ys.length := by omega
        by_cases hxy : x = y
        · subst hxy
          have hne : (x != x) = false := by simp
          go_wp2
          go_roundg (gk - 1)
          case measure => omega
          case rel => exact ⟨hw, j + 1, by go_num, Lib.hid (by rw [List.take_add_one, List.take_add_one, hx.out, hy.out, hg.out]), by omega, by omega⟩
        · have hne : (x != y) = true := by simpa using hxy
          have hf : Hid (decide (xs = ys) = false) := Lib.hid (by
            rw [decide_eq_false_iff_not]
            intro e
            have h1 := hx.out
            rw [e, hy.out] at h1
            exact hxy (Option.some.inj h1).symm)
          clear hxy
          go_wp2
          have hq := H.out _ hw
          rw [hf.out] at hq
          simpa using hq
      · go_wp2
        have e : xs = ys := by
          have h1 := hg.out
          have h2 := hl''.out
          rw [List.take_of_length_le (by omega), List.take_of_length_le (by omega)] at h1
          exact h1
        have hq := H.out _ hw
        rw [decide_eq_true e] at hq
        exact hq
  · have hl' : ((xs.length : Int) != ys.length) = true := by simp; omega
    have hf : Hid (decide (xs = ys) = false) := Lib.hid (by rw [decide_eq_false_iff_not]; intro e; exact hl (by rw [e]))
    clear hl
    go_enter Try.func88, Try.ntmps88
    go_wp2
    have hq := H.out _ (Drawn.refl w)
    rw [hf.out] at hq
    exact hq
set_option maxHeartbeats 400000 in
theorem l03Less_c {va vb : Value} {xs ys : List Int} {w : World} {Q : Ending → World → Prop} (ha : IntsAt w va xs) (hb : IntsAt w vb ys) (hl : xs.length = ys.length) (hQ : Q (.returned (.bool (Words.less xs ys))) w) :
    Calls Try.prog 87 #[va, vb] w Q := by
  have H := Lib.hid hQ; clear hQ
  obtain ⟨aa, ca, rfl, la, lca, cca⟩ := ha.form
  obtain ⟨ab, cb, rfl, lb, lcb, ccb⟩ := hb.form
  have hl'' := Lib.hid hl
  clear hl
  go_enter Try.func87, Try.ntmps87
  go_wp2
  go_loopg [9] xs.length (fun k i wr => Hid (wr = w) ∧ ∃ j : Nat, i = .int .i64 j ∧ Hid (Words.less (xs.drop j) (ys.drop j) = Words.less xs ys) ∧ j + k ≤ xs.length ∧ xs.length ≤ j + k)
  case atStart => exact ⟨Lib.hid rfl, 0, rfl, Lib.hid rfl, by omega, by omega⟩
  case round =>
    obtain ⟨hw, j, rfl, hg, hk1, hk2⟩ := hrel
    obtain rfl := hw.out
    clear hw
    by_cases hj : j < xs.length
    · have hjy : j < ys.length := by have := hl''.out; omega
      obtain ⟨ba, oa, x, rfl, hx, hcx⟩ := ha.cell hj
      obtain ⟨bb, ob, y, rfl, hy, hcy⟩ := hb.cell hjy
      have i1 : (j : Int) < xs.length := by omega
      have i2 : (j : Int) < ys.length := by omega
      have es : Hid (Words.less xs ys = if x ≠ y then decide (x < y) else Words.less (xs.drop (j + 1)) (ys.drop (j + 1))) := Lib.hid (by
        rw [← hg.out]; exact Words.less_drop hx.out hy.out)
      by_cases hxy : x = y
      · subst hxy
        have hne : (x != x) = false := by simp
        go_wp2
        go_roundg (gk - 1)
        case measure => omega
        case rel => exact ⟨Lib.hid rfl, j + 1, by go_num, Lib.hid (by rw [es.out, if_neg (by simp)]), by omega, by omega⟩
      · have hne : (x != y) = true := by simpa using hxy
        have es' : Hid (Words.less xs ys = decide (x < y)) := Lib.hid (by rw [es.out, if_pos hxy])
        clear hxy
        go_wp2
        have hq := H.out
        rw [es'.out] at hq
        simpa using hq
    · go_wp2
      have hq := H.out
      rw [← hg.out, Words.drop_end (by omega)] at hq
      exact hq
set_option maxHeartbeats 400000 in
theorem cmpInt_c {x y : Int} {w : World} {Q : Ending → World → Prop} (hQ : Q (.returned (.int .i64 (if x < y then -1 else if y < x then 1 else 0))) w) :
    Calls Try.prog 73 #[.int .i64 x, .int .i64 y] w Q := by
  have H := Lib.hid hQ; clear hQ
  go_enter Try.func73, Try.ntmps73
  go_wp2
  all_goals go_tidy
  · refine intq' H.out ?_
    rw [if_pos (by assumption)]
  · refine intq' H.out ?_
    rw [if_neg (by omega), if_pos (by assumption)]
  · refine intq' H.out ?_
    rw [if_neg (by omega), if_neg (by omega)]
set_option maxHeartbeats 800000 in
theorem Compare_c {va vb : Value} {xs ys : List Int} {w : World} {Q : Ending → World → Prop} (ha : IntsAt w va xs) (hb : IntsAt w vb ys) (hQ : Q (.returned (.int .i64 (Words.cmpL xs ys))) w) :
    Calls Try.prog 43 #[va, vb] w Q := by
  have H := Lib.hid hQ; clear hQ
  obtain ⟨aa, ca, rfl, la, lca, cca⟩ := ha.form
  obtain ⟨ab, cb, rfl, lb, lcb, ccb⟩ := hb.form
  go_enter Try.func43, Try.ntmps43
  go_wp2_with fail
  go_loopg [11] xs.length (fun k i wr => Hid (wr = w) ∧ ∃ j : Nat, i = .int .i64 j ∧ Hid (Words.cmpL (xs.drop j) (ys.drop j) = Words.cmpL xs ys) ∧ Hid (j ≤ ys.length) ∧ j + k ≤ xs.length ∧ xs.length ≤ j + k)
  case atStart => exact ⟨Lib.hid rfl, 0, rfl, Lib.hid rfl, Lib.hid (Nat.zero_le _), by omega, by omega⟩
  case round =>
    obtain ⟨hw, j, rfl, hg, hjy0, hk1, hk2⟩ := hrel
    obtain rfl := hw.out
    clear hw
    by_cases hj : j < xs.length
    · obtain ⟨ba, oa, x, rfl, hx, hcx⟩ := ha.cell hj
      have i1 : (j : Int) < xs.length := by omega
      by_cases hjy : j < ys.length
      · obtain ⟨bb, ob, y, rfl, hy, hcy⟩ := hb.cell hjy
        have i2 : (j : Int) < ys.length := by omega
        have es : Hid (Words.cmpL xs ys = if x < y then -1 else if y < x then 1 else Words.cmpL (xs.drop (j + 1)) (ys.drop (j + 1))) := Lib.hid (by
          rw [← hg.out]; exact Words.cmpL_drop hx.out hy.out)
        by_cases hlt : x < y
        · have ec : Hid ((if x < y then (-1 : Int) else if y < x then 1 else 0) = -1) := Lib.hid (if_pos hlt)
          have es' : Hid (Words.cmpL xs ys = -1) := Lib.hid (by rw [es.out, if_pos hlt])
          clear hlt es
          go_wp2_with (go_at_call 73; refine cmpInt_c ?_; rw [ec.out])
          exact intq' H.out es'.out
        · by_cases hgt : y < x
          · have ec : Hid ((if x < y then (-1 : Int) else if y < x then 1 else 0) = 1) := Lib.hid (by rw [if_neg hlt, if_pos hgt])
            have es' : Hid (Words.cmpL xs ys = 1) := Lib.hid (by rw [es.out, if_neg hlt, if_pos hgt])
            clear hlt hgt es
            go_wp2_with (go_at_call 73; refine cmpInt_c ?_; rw [ec.out])
            exact intq' H.out es'.out
          · have ec : Hid ((if x < y then (-1 : Int) else if y < x then 1 else 0) = 0) := Lib.hid (by rw [if_neg hlt, if_neg hgt])
            have es' : Hid (Words.cmpL (xs.drop (j + 1)) (ys.drop (j + 1)) = Words.cmpL xs ys) := Lib.hid (by rw [es.out, if_neg hlt, if_neg hgt])
            clear hlt hgt es
            go_wp2_with (go_at_call 73; refine cmpInt_c ?_; rw [ec.out])
            go_roundg (gk - 1)
            case measure => omega
            case rel => exact ⟨Lib.hid rfl, j + 1, by go_num, es', Lib.hid hjy, by omega, by omega⟩
      · have i2 : (ys.length : Int) ≤ j := by omega
        have es' : Hid (Words.cmpL xs ys = 1) := Lib.hid (by
          rw [← hg.out, Words.drop_end (xs := ys) (by omega), List.drop_eq_getElem_cons hj]; rfl)
        go_wp2_with fail
        exact intq' H.out es'.out
    · have hle := hjy0.out
      have es' : Hid (Words.cmpL xs ys = if xs.length < ys.length then -1 else 0) := Lib.hid (by
        rw [← hg.out, Words.drop_end (xs := xs) (by omega)]
        by_cases h : xs.length < ys.length
        · rw [if_pos h, List.drop_eq_getElem_cons (by omega)]; rfl
        · rw [if_neg h, Words.drop_end (by omega)]; rfl)
      by_cases h : xs.length < ys.length
      · have h' : (xs.length : Int) < ys.length := by omega
        go_wp2_with fail
        refine intq' H.out ?_
        rw [es'.out, if_pos h]
      · have h' : ¬ (xs.length : Int) < ys.length := by omega
        go_wp2_with fail
        refine intq' H.out ?_
        rw [es'.out, if_neg h]
set_option maxHeartbeats 400000 in
theorem Clone_c {va : Value} {xs : List Int} {w : World} {Q : Ending → World → Prop} (ha : IntsAt w va xs) (hn : xs.length ≤ 17592186044416)
    (hQ : ∀ v w', OwnInts w' w.heap.size v xs → Below w.heap.size w w' → Q (.returned v) w') :
    Calls Try.prog 96 #[va] w Q := by
  have H := Lib.hid hQ; clear hQ
  have ha' := ha
  obtain ⟨aa, ca, rfl, la, lca, cca⟩ := ha'.form
  rcases RowAt.addr ha with ⟨rfl, hl, rfl, hx⟩ | ⟨a, rfl, hz, hc⟩
  · have hx0 : xs = [] := by cases xs; rfl; simp [ints] at hx
    subst hx0
    have hnil := fun w => Lib.run_eql_slice_nil (P := Try.prog) w 38 3 none 0 0 0 0 Try.underlying38
    go_enter Try.func96, Try.ntmps96
    go_wp2
    exact H.out _ _ (Own.nil _ _ _) (Below.refl _ _)
  · have hnil := fun w => Lib.run_eql_slice_nil (P := Try.prog) w 38 3 (some a) xs.length ca 0 0 Try.underlying38
    have ho := own_empty w
    have hrow := IntsAt.below ha (below_alloc w (.cells #[] 3))
    clear hc hz
    go_enter Try.func96, Try.ntmps96
    go_wp2_with (at_builtin; refine app_ints rfl (.tmp 5) (.tmp 6) rfl rfl ho rfl hrow (by simp; omega) (by simp) ?_; intro v' w' h2 h3)
    exact H.out _ _ h2 ((below_alloc w _).grown h3 (by simp) (fun k hk => by cases hk; simp))
end Go.Proofs.Ytdjdagcgodpgdaa
/- Words: whether they are valid, turned, reversed. -/
set_option linter.unusedVariables false
namespace Go.Proofs.Ytdjdagcgodpgdaa
open Go.RowKit

end Go.Proofs.Ytdjdagcgodpgdaa
/- Permutations: whether a list is one; composing; carrying colorings. -/
set_option linter.unusedVariables false
namespace Go.Proofs.Ytdjdagcgodpgdaa
open Go.RowKit

/-- Block b holds n bools: the i-th is P i. -/
def BoolsIn (w : World) (b : Nat) (T : TypeId) (n : Nat) (P : Nat → Bool) : Prop := ∃ arr, w.heap[b]? = some (.cells arr T (0, 0)) ∧ arr.size = n ∧ ∀ i, i < n → arr[i]? = some (.bool (P i))
theorem BoolsIn.cell {w : World} {b n : Nat} {T : TypeId} {P : Nat → Bool} (h : BoolsIn w b T n P) {i : Nat} (hi : i < n) : w.cell? ⟨b, i, none⟩ = some (.bool (P i)) := by
  obtain ⟨arr, h1, h2, h3⟩ := h
  rw [cell_of_row w b i _ _ _ h1]; exact h3 i hi
theorem BoolsIn.frozen {w : World} {b n : Nat} {T : TypeId} {P : Nat → Bool} (h : BoolsIn w b T n P) (i : Nat) : w.frozen? ⟨b, i, none⟩ = false := by
  obtain ⟨arr, h1, h2, h3⟩ := h
  simp [World.frozen?, h1]
theorem BoolsIn.set {w : World} {b n : Nat} {T : TypeId} {P : Nat → Bool} (h : BoolsIn w b T n P) (k : Nat) (v : Bool) : BoolsIn (w.setCell ⟨b, k, none⟩ (.bool v)) b T n (fun i => if i = k then v else P i) := by
  obtain ⟨arr, h1, h2, h3⟩ := h
  refine ⟨arr.setIfInBounds k (.bool v), by simp [World.setCell, Array.getElem?_modify, h1], by simpa using h2, fun i hi => ?_⟩
  rw [Array.getElem?_setIfInBounds]
  by_cases e : k = i
  · subst e; simp [h2, hi]
  · rw [if_neg e]
    simp only [show ¬ i = k from fun h => e h.symm, if_false]
    exact h3 i hi
theorem BoolsIn.below {w w' : World} {b n : Nat} {T : TypeId} {P : Nat → Bool} (h : BoolsIn w b T n P) (hb : Below w.heap.size w w') : BoolsIn w' b T n P := by
  obtain ⟨arr, h1, h2, h3⟩ := h
  exact ⟨arr, by rw [hb.block b (Array.getElem?_eq_some_iff.1 h1).1]; exact h1, h2, h3⟩
theorem BoolsIn.congr {w : World} {b n : Nat} {T : TypeId} {P P' : Nat → Bool} (h : BoolsIn w b T n P) (e : ∀ i, i < n → P i = P' i) : BoolsIn w b T n P' := by
  obtain ⟨arr, h1, h2, h3⟩ := h
  exact ⟨arr, h1, h2, fun i hi => by rw [← e i hi]; exact h3 i hi⟩
theorem BoolsIn.lt {w : World} {b n : Nat} {T : TypeId} {P : Nat → Bool} (h : BoolsIn w b T n P) : b < w.heap.size := by
  obtain ⟨arr, h1, h2, h3⟩ := h
  exact (Array.getElem?_eq_some_iff.1 h1).1
theorem BoolsIn.drawn {w w' : World} {b n : Nat} {T : TypeId} {P : Nat → Bool} (h : BoolsIn w b T n P) (hd : Drawn w w') : BoolsIn w' b T n P := by
  obtain ⟨arr, h1, h2, h3⟩ := h
  exact ⟨arr, by rw [hd.heap]; exact h1, h2, h3⟩

set_option maxHeartbeats 1000000 in
theorem PermOk_i {va : Value} {xs : List Int} {w : World} {Q : Ending → World → Prop} (ha : IntsAt w va xs)
    (hQ : ∀ w', Below w.heap.size w w' → Q (.returned (.bool (Perms.permB xs))) w') :
    Calls Try.prog 25 #[va] w Q := by
  have H := Lib.hid hQ; clear hQ
  have ha' := ha
  obtain ⟨aa, ca, rfl, la, lca, cca⟩ := ha'.form
  clear ha'
  by_cases hl : 1 ≤ (xs.length : Int) ∧ (xs.length : Int) ≤ 10
  · have hbs : BoolsIn (w.alloc (.cells #[.bool false, .bool false, .bool false, .bool false, .bool false, .bool false, .bool false, .bool false, .bool false, .bool false] 69)) w.heap.size 69 10 (fun i => decide ((i : Int) ∈ xs.take 0)) :=
      ⟨_, heap_alloc_new _ _, rfl, fun i hi => by
        match i, hi with
        | 0, _ | 1, _ | 2, _ | 3, _ | 4, _ | 5, _ | 6, _ | 7, _ | 8, _ | 9, _ => simp⟩
    have hp : Hid (Perms.permB xs = Perms.okTo xs xs.length) := Lib.hid (by unfold Perms.permB; rw [decide_eq_true (by omega), Bool.true_and])
    obtain ⟨l1, l2⟩ := hl
    go_enter Try.func25, Try.ntmps25
    go_wp2
    go_loopg [17] xs.length (fun g i wr => Below w.heap.size w wr ∧ ∃ j : Nat, i = .int .i64 j ∧ BoolsIn wr w.heap.size 69 10 (fun i => decide ((i : Int) ∈ xs.take j)) ∧ Hid (Perms.okTo xs j = true) ∧ j + g ≤ xs.length ∧ xs.length ≤ j + g)
    case atStart => exact ⟨below_alloc w _, 0, rfl, hbs, Lib.hid rfl, by omega, by omega⟩
    case round =>
      obtain ⟨hb, j, rfl, hB, hg, hk1, hk2⟩ := hrel
      by_cases hj : j < xs.length
      · have i1 : (j : Int) < xs.length := by omega
        obtain ⟨ba, oa, x, rfl, hx, hcx⟩ := ha.cell hj
        have hcx' := below_cells hb _ _ hcx
        by_cases hr : 0 ≤ x ∧ x < xs.length
        · obtain ⟨r1, r2⟩ := hr
          have hcb := hB.cell (i := x.toNat) (by omega)
          have hfb := hB.frozen x.toNat
          rw [show ((x.toNat : Nat) : Int) = x from by omega] at hcb
          by_cases hm : x ∈ xs.take j
          · have hf : Hid (Perms.permB xs = false) := Lib.hid (by rw [hp.out]; exact Perms.okTo_bad hj (by simp only [Perms.okTo]; rw [hx.out]; simp [hm]))
            have hd : decide (x ∈ xs.take j) = true := decide_eq_true hm
            rw [hd] at hcb
            clear hm hd
            go_wp2
            exact boolq' (H.out _ hb) hf.out
          · have hs : Hid (Perms.okTo xs (j + 1) = true) := Lib.hid (by simp only [Perms.okTo]; rw [hg.out, hx.out]; simp [hm, r1, r2])
            have hd : decide (x ∈ xs.take j) = false := decide_eq_false hm
            rw [hd] at hcb
            clear hm hd
            go_wp2
            go_roundg (gk - 1)
            case measure => omega
            case rel =>
              exact ⟨hb.setCell (Nat.le_refl _) _, j + 1, by go_num, (hB.set x.toNat true).congr (fun i hi => Perms.mem_step hx.out r1 i), hs, by omega, by omega⟩
        · have hf : Hid (Perms.permB xs = false) := Lib.hid (by rw [hp.out]; exact Perms.okTo_bad hj (by simp only [Perms.okTo]; rw [hx.out]; simp; intro _ a b; omega))
          go_wp2
          all_goals exact boolq' (H.out _ hb) hf.out
      · have hf : Hid (Perms.permB xs = true) := Lib.hid (by rw [hp.out, show xs.length = j from by omega]; exact hg.out)
        go_wp2
        exact boolq' (H.out _ hb) hf.out
  · have hf : Hid (Perms.permB xs = false) := Lib.hid (by unfold Perms.permB; rw [decide_eq_false (by omega), Bool.false_and])
    go_enter Try.func25, Try.ntmps25
    go_wp2
    all_goals exact boolq' (H.out _ (Below.refl _ _)) hf.out
theorem Try.infoBool : (Try.prog.info? 4).map (fun i => (i.zero, i.size, i.bytes)) = some (some (.bool false), 1, 1) := by kernel_rfl
/-- 'make([]bool, n)'. -/
theorem mk_bools {w : World} {ops : Array Oper} {rest : List Oper} {o : Oper} {a : Act} {Q : Exit → Act → World → Prop}
    (hg : o.guard = none) (l c : Operand) (hop : o.op = Op.makeSlice 67 l c) {C : Int} (hl : a.eval l = .int .i64 C) (hc : a.eval c = .int .i64 C) (n : Nat) (hC : C = n) (hn : n ≤ 1099511627776)
    (hK : ∀ w', BoolsIn w' w.heap.size 4 n (fun _ => false) → Below w.heap.size w w' → w.heap.size < w'.heap.size → wpList Try.prog ops Q rest (a.put o.dst (.slice (some ⟨w.heap.size, 0, none⟩) n n)) w') :
    wpList Try.prog ops Q (o :: rest) a w := by
  obtain ⟨i0, hi, hz0, hz1, hz2⟩ := info_parts Try.infoBool
  refine wpList_make_full w hg l c 67 hop w.heap.size 4 i0 (.bool false) 1 Try.underlying67 hi hz0 hz1 .i64 .i64 C C n hl hc hC hC (by rw [hz2]; omega) (by unfold maxLen; omega) (Nat.le_refl _) ?_
  intro w' hown hgr
  have e : (madeCells (Value.bool false).cells (n * 1)).toList = List.replicate n (.bool false) := by
    rw [Nat.mul_one]
    show (madeCells #[Value.bool false] n).toList = _
    rw [toList_madeCells_one]
  rw [e] at hown
  refine hK w' ?_ (below_of_grown hgr (Nat.le_refl _) (fun k hk => by cases hk)) (hown.lt _ rfl).2
  rcases hown.2 with ⟨h, _⟩ | ⟨g, cap, cur, h, hb, hgg, h1, h2, h3, h4⟩
  · simp at h
  · simp only [Value.slice.injEq, Option.some.injEq, Addr.mk.injEq, and_true, true_and] at h
    obtain ⟨rfl, rfl⟩ := h
    refine ⟨cur, hgg, by omega, fun i hi => ?_⟩
    have e2 : (cur.toList.take (n * 1))[i]? = (List.replicate n (Value.bool false))[i]? := by rw [h4]
    rw [List.getElem?_take, if_pos (by omega), List.getElem?_replicate, if_pos hi, Array.getElem?_toList] at e2
    exact e2
set_option maxHeartbeats 1000000 in
theorem PermOk_s {va : Value} {xs : List Int} {w : World} {Q : Ending → World → Prop} (ha : IntsAt w va xs)
    (hQ : ∀ w', Below w.heap.size w w' → Q (.returned (.bool (Perms.permB xs))) w') :
    Calls Try.prog 52 #[va] w Q := by
  have H := Lib.hid hQ; clear hQ
  have ha' := ha
  obtain ⟨aa, ca, rfl, la, lca, cca⟩ := ha'.form
  clear ha'
  by_cases hl : 1 ≤ (xs.length : Int) ∧ (xs.length : Int) ≤ 10
  · have hp : Hid (Perms.permB xs = Perms.okTo xs xs.length) := Lib.hid (by unfold Perms.permB; rw [decide_eq_true (by omega), Bool.true_and])
    have hd0 : Hid (decide (1 ≤ (xs.length : Int) ∧ (xs.length : Int) ≤ 10) = true) := Lib.hid (decide_eq_true hl)
    obtain ⟨l1, l2⟩ := hl
    go_enter Try.func52, Try.ntmps52
    go_wp2_with (first | (go_at_call 51; refine l01In_c ?_; rw [hd0.out]) | (at_make; refine mk_bools rfl (.tmp 11) (.tmp 11) rfl rfl rfl xs.length rfl (by omega) ?_; intro w1 hB1 hb1 hs1))
    go_loopg [15] xs.length (fun g i wr => Below w.heap.size w wr ∧ ∃ j : Nat, i = .int .i64 j ∧ BoolsIn wr w.heap.size 4 xs.length (fun i => decide ((i : Int) ∈ xs.take j)) ∧ Hid (Perms.okTo xs j = true) ∧ j + g ≤ xs.length ∧ xs.length ≤ j + g)
    case atStart => exact ⟨hb1, 0, rfl, hB1.congr (fun i hi => by simp), Lib.hid rfl, by omega, by omega⟩
    case round =>
      obtain ⟨hb, j, rfl, hB, hg, hk1, hk2⟩ := hrel
      by_cases hj : j < xs.length
      · have i1 : (j : Int) < xs.length := by omega
        obtain ⟨ba, oa, x, rfl, hx, hcx⟩ := ha.cell hj
        have hcx' := below_cells hb _ _ hcx
        by_cases hr : 0 ≤ x ∧ x < xs.length
        · have hd1 : Hid (decide (0 ≤ x ∧ x ≤ (xs.length : Int) - 1) = true) := Lib.hid (decide_eq_true (by omega))
          obtain ⟨r1, r2⟩ := hr
          have hcb := hB.cell (i := x.toNat) (by omega)
          have hfb := hB.frozen x.toNat
          rw [show ((x.toNat : Nat) : Int) = x from by omega] at hcb
          by_cases hm : x ∈ xs.take j
          · have hf : Hid (Perms.permB xs = false) := Lib.hid (by rw [hp.out]; exact Perms.okTo_bad hj (by simp only [Perms.okTo]; rw [hx.out]; simp [hm]))
            have hd : decide (x ∈ xs.take j) = true := decide_eq_true hm
            rw [hd] at hcb
            clear hm hd
            go_wp2_with (go_at_call 51; refine l01In_c ?_; rw [hd1.out])
            exact boolq' (H.out _ hb) hf.out
          · have hs : Hid (Perms.okTo xs (j + 1) = true) := Lib.hid (by simp only [Perms.okTo]; rw [hg.out, hx.out]; simp [hm, r1, r2])
            have hd : decide (x ∈ xs.take j) = false := decide_eq_false hm
            rw [hd] at hcb
            clear hm hd
            go_wp2_with (go_at_call 51; refine l01In_c ?_; rw [hd1.out])
            go_roundg (gk - 1)
            case measure => omega
            case rel =>
              exact ⟨hb.setCell (Nat.le_refl _) _, j + 1, by go_num, (hB.set x.toNat true).congr (fun i hi => Perms.mem_step hx.out r1 i), hs, by omega, by omega⟩
        · have hf : Hid (Perms.permB xs = false) := Lib.hid (by rw [hp.out]; exact Perms.okTo_bad hj (by simp only [Perms.okTo]; rw [hx.out]; simp; intro _ a b; omega))
          have hd1 : Hid (decide (0 ≤ x ∧ x ≤ (xs.length : Int) - 1) = false) := Lib.hid (decide_eq_false (by omega))
          clear hr
          go_wp2_with (go_at_call 51; refine l01In_c ?_; rw [hd1.out])
          exact boolq' (H.out _ hb) hf.out
      · have hf : Hid (Perms.permB xs = true) := Lib.hid (by rw [hp.out, show xs.length = j from by omega]; exact hg.out)
        go_wp2_with fail
        exact boolq' (H.out _ hb) hf.out
  · have hf : Hid (Perms.permB xs = false) := Lib.hid (by unfold Perms.permB; rw [decide_eq_false (by omega), Bool.false_and])
    have hd0 : Hid (decide (1 ≤ (xs.length : Int) ∧ (xs.length : Int) ≤ 10) = false) := Lib.hid (decide_eq_false hl)
    clear hl
    go_enter Try.func52, Try.ntmps52
    go_wp2_with (go_at_call 51; refine l01In_c ?_; rw [hd0.out])
    exact boolq' (H.out _ (Below.refl _ _)) hf.out
end Go.Proofs.Ytdjdagcgodpgdaa
/- Composing permutations, carrying colorings, finding a row. -/
set_option linter.unusedVariables false
namespace Go.Proofs.Ytdjdagcgodpgdaa
open Go.RowKit

set_option maxHeartbeats 800000 in
theorem compose_i {va vb : Value} {p q : List Int} {w : World} {Q : Ending → World → Prop} (ha : IntsAt w va p) (hb : IntsAt w vb q) (hl : p.length ≤ 1048576) (hq : ∀ x ∈ p, 0 ≤ x ∧ x < q.length)
    (hQ : ∀ v w', OwnInts w' w.heap.size v (Perms.comp p q) → Below w.heap.size w w' → Q (.returned v) w') :
    Calls Try.prog 45 #[va, vb] w Q := by
  have H := Lib.hid hQ; clear hQ
  have hq' := Lib.hid hq
  clear hq
  obtain ⟨aa, ca, rfl, la, lca, cca⟩ := ha.form
  obtain ⟨ab, cb, rfl, lb, lcb, ccb⟩ := hb.form
  go_enter Try.func45, Try.ntmps45
  go_wp2_with (at_make; refine mk_ints rfl (.tmp 9) (.tmp 9) rfl rfl rfl p.length rfl (by omega) ?_; intro w1 ho1 hb1 hs1)
  go_loopg [13] p.length (fun k i wr => ∃ j : Nat, i = .int .i64 j ∧ OwnInts wr w.heap.size (.slice (some ⟨w.heap.size, 0, none⟩) p.length p.length) ((Perms.comp p q).take j ++ List.replicate (p.length - j) 0) ∧ Below w.heap.size w wr ∧ j + k ≤ p.length ∧ p.length ≤ j + k)
  case atStart => exact ⟨0, rfl, by simpa using ho1, hb1, by omega, by omega⟩
  case round =>
    obtain ⟨j, rfl, ho, hbw, hk1, hk2⟩ := hrel
    by_cases hj : j < p.length
    · obtain ⟨ba, oa, x, rfl, hx, hcx⟩ := ha.cell hj
      have hcx' := below_cells hbw _ _ hcx
      have hxr := hq'.out x (List.mem_of_getElem? hx.out)
      obtain ⟨hx0, hx1⟩ := hxr
      obtain ⟨bb, ob, y, rfl, hy, hcy⟩ := hb.cell (k := x.toNat) (by omega)
      have hcy' := below_cells hbw _ _ hcy
      have i1 : (j : Int) < p.length := by omega
      have hfr := Own.frozen ho j
      obtain ⟨x0, _, hc0⟩ := OwnInts.cell ho (k := j) (by simp [Perms.comp_len]; omega)
      have es : Hid ((Perms.comp p q)[j]? = some y) := Lib.hid (Perms.comp_get hx.out hx0 hy.out)
      go_wp2
      go_roundg (gk - 1)
      case measure => omega
      case rel =>
        have ho' := OwnInts.set ho j y
        rw [fill_step hj es.out] at ho'
        exact ⟨j + 1, by go_num, ho', hbw.setCell (Nat.le_refl _) _, by omega, by omega⟩
    · go_wp2
      refine H.out _ _ ?_ hbw
      rw [fill_end (by omega) (by rw [Perms.comp_len]; omega)] at ho
      exact ho
set_option maxHeartbeats 800000 in
theorem compose_s {va vb : Value} {p q : List Int} {w : World} {Q : Ending → World → Prop} (ha : IntsAt w va p) (hb : IntsAt w vb q) (hl : p.length ≤ 1048576) (hq : ∀ x ∈ p, 0 ≤ x ∧ x < q.length)
    (hQ : ∀ v w', OwnInts w' w.heap.size v (Perms.comp p q) → Below w.heap.size w w' → Q (.returned v) w') :
    Calls Try.prog 54 #[va, vb] w Q := by
  have H := Lib.hid hQ; clear hQ
  have hq' := Lib.hid hq
  clear hq
  obtain ⟨aa, ca, rfl, la, lca, cca⟩ := ha.form
  obtain ⟨ab, cb, rfl, lb, lcb, ccb⟩ := hb.form
  go_enter Try.func54, Try.ntmps54
  go_wp2
  go_loopg [5, 11] p.length (fun k o i wr => ∃ j : Nat, i = .int .i64 j ∧ OwnInts wr w.heap.size o ((Perms.comp p q).take j) ∧ Below w.heap.size w wr ∧ j + k ≤ p.length ∧ p.length ≤ j + k)
  case atStart => exact ⟨0, rfl, by simpa using own_empty w, below_alloc w _, by omega, by omega⟩
  case round =>
    obtain ⟨j, rfl, ho, hbw, hk1, hk2⟩ := hrel
    by_cases hj : j < p.length
    · obtain ⟨ba, oa, x, rfl, hx, hcx⟩ := ha.cell hj
      have hcx' := below_cells hbw _ _ hcx
      have hxr := hq'.out x (List.mem_of_getElem? hx.out)
      obtain ⟨hx0, hx1⟩ := hxr
      obtain ⟨bb, ob, y, rfl, hy, hcy⟩ := hb.cell (k := x.toNat) (by omega)
      have hcy' := below_cells hbw _ _ hcy
      have i1 : (j : Int) < p.length := by omega
      have es : Hid ((Perms.comp p q)[j]? = some y) := Lib.hid (Perms.comp_get hx.out hx0 hy.out)
      go_wp2_with (at_builtin; refine app_int rfl (.tmp 15) (.tmp 20) rfl rfl (OwnInts.below ho (below_alloc wr _)) rfl (cell_new _ _ _) (by simp; omega) (by have := hbw.size; simp; omega) ?_; intro v2 w2 o2 g2)
      go_roundg (gk - 1)
      case measure => omega
      case rel =>
        rw [show (Perms.comp p q).take j ++ [y] = (Perms.comp p q).take (j + 1) from by rw [List.take_add_one, es.out]; rfl] at o2
        exact ⟨j + 1, by go_num, o2, (hbw.alloc hbw.size _).grown g2 (by have := hbw.size; simp; omega) (fun b hb => (OwnInts.lt ho hb).1), by omega, by omega⟩
    · go_wp2
      refine H.out _ _ ?_ hbw
      rw [List.take_of_length_le (by rw [Perms.comp_len]; omega)] at ho
      exact ho
set_option maxHeartbeats 800000 in
theorem act_i {va vb : Value} {p l : List Int} {w : World} {Q : Ending → World → Prop} (ha : IntsAt w va p) (hb : IntsAt w vb l) (hl : l.length ≤ 1048576) (hpl : p.length = l.length) (hq : ∀ x ∈ p, 0 ≤ x ∧ x < l.length)
    (hQ : ∀ v w', OwnInts w' w.heap.size v (Perms.act p l) → Below w.heap.size w w' → Q (.returned v) w') :
    Calls Try.prog 97 #[va, vb] w Q := by
  have H := Lib.hid hQ; clear hQ
  have hq' := Lib.hid hq
  have hpl' := Lib.hid hpl
  clear hq hpl
  obtain ⟨aa, ca, rfl, la, lca, cca⟩ := ha.form
  obtain ⟨ab, cb, rfl, lb, lcb, ccb⟩ := hb.form
  go_enter Try.func97, Try.ntmps97
  go_wp2_with (at_make; refine mk_ints rfl (.tmp 9) (.tmp 9) rfl rfl rfl l.length rfl (by omega) ?_; intro w1 ho1 hb1 hs1)
  go_loopg [13] l.length (fun k i wr => ∃ j : Nat, i = .int .i64 j ∧ OwnInts wr w.heap.size (.slice (some ⟨w.heap.size, 0, none⟩) l.length l.length) (Perms.actTo p l j) ∧ Below w.heap.size w wr ∧ j + k ≤ l.length ∧ l.length ≤ j + k)
  case atStart => exact ⟨0, rfl, ho1, hb1, by omega, by omega⟩
  case round =>
    obtain ⟨j, rfl, ho, hbw, hk1, hk2⟩ := hrel
    by_cases hj : j < l.length
    · obtain ⟨bb, ob, y, rfl, hy, hcy⟩ := hb.cell hj
      have hcy' := below_cells hbw _ _ hcy
      obtain ⟨ba, oa, x, rfl, hx, hcx⟩ := ha.cell (k := j) (by have := hpl'.out; omega)
      have hcx' := below_cells hbw _ _ hcx
      have hxr := hq'.out x (List.mem_of_getElem? hx.out)
      obtain ⟨hx0, hx1⟩ := hxr
      have i1 : (j : Int) < l.length := by omega
      have i2 : (j : Int) < p.length := by have := hpl'.out; omega
      have hfr := Own.frozen ho x.toNat
      obtain ⟨x0, _, hc0⟩ := OwnInts.cell ho (k := x.toNat) (by rw [Perms.actTo_len]; omega)
      have es : Hid (Perms.actTo p l (j + 1) = (Perms.actTo p l j).set x.toNat y) := Lib.hid (by simp only [Perms.actTo]; rw [hx.out, hy.out])
      go_wp2
      go_roundg (gk - 1)
      case measure => omega
      case rel =>
        have ho' := OwnInts.set ho x.toNat y
        rw [← es.out] at ho'
        exact ⟨j + 1, by go_num, ho', hbw.setCell (Nat.le_refl _) _, by omega, by omega⟩
    · obtain rfl : j = l.length := by omega
      go_wp2
      exact H.out _ _ ho hbw
set_option maxHeartbeats 800000 in
theorem find_s {vg vp : Value} {g : List (List Int)} {p : List Int} {w : World} {Q : Ending → World → Prop} (hg : RowsAt w vg g) (hp : IntsAt w vp p) (hs : Perms.Asc g) (hn : g.length ≤ 1048576) (hl : ∀ x ∈ g, x.length = p.length)
    (hQ : ∀ w', Drawn w w' → Q (.returned (.int .i64 (Perms.idx g p))) w') :
    Calls Try.prog 55 #[vg, vp] w Q := by
  have H := Lib.hid hQ; clear hQ
  have hl' := Lib.hid hl
  have hs' := Lib.hid hs
  clear hl hs
  obtain ⟨aa, ca, rfl, la, lca, cca⟩ := hg.form
  go_enter Try.func55, Try.ntmps55
  go_wp2_with fail
  go_loopg [5, 6] g.length (fun k a b wr => Drawn w wr ∧ ∃ i j : Nat, a = .int .i64 i ∧ b = .int .i64 j ∧ i ≤ j ∧ j ≤ g.length ∧ j ≤ i + k ∧ Hid (Perms.Cut g p i j))
  case atStart => exact ⟨Drawn.refl w, 0, g.length, rfl, rfl, by omega, by omega, by omega, Lib.hid (Perms.Cut.start g p)⟩
  case round =>
    obtain ⟨hw, i, j, rfl, rfl, hij, hjn, hk, hC⟩ := hrel
    have hgw := hg.drawn hw
    have hpw := hp.drawn hw
    by_cases hlt : i < j
    · obtain ⟨m, hm⟩ : ∃ m : Nat, m = (i + j) / 2 := ⟨_, rfl⟩
      have hm1 : i ≤ m := by omega
      have hm2 : m < j := by omega
      have hmI : ((i : Int) + j) / 2 = m := by omega
      clear hm
      obtain ⟨b, off, u, xs, rfl, hx, hc, hi⟩ := hgw.cell (k := m) (by omega)
      have i1 : (m : Int) < g.length := by omega
      have hxl := hl'.out xs (List.mem_of_getElem? hx.out)
      have hxl' := Lib.hid hxl
      clear hxl
      cases hc0 : Words.less xs p with
      | true =>
        have hC' : Hid (Perms.Cut g p (m + 1) j) := Lib.hid (hC.out.up hs'.out hx.out (by rw [← Words.less_neg hxl'.out]; exact hc0))
        go_wp2_with (go_at_call 87; refine l03Less_c hi hpw hxl'.out ?_; rw [hc0])
        go_roundg (gk - 1)
        case measure => omega
        case rel => exact ⟨hw, m + 1, j, by go_num, rfl, by omega, by omega, by omega, hC'⟩
      | false =>
        have hC' : Hid (Perms.Cut g p i m) := Lib.hid (hC.out.down hs'.out hx.out (by rw [← Words.less_neg hxl'.out, hc0]; simp))
        go_wp2_with (go_at_call 87; refine l03Less_c hi hpw hxl'.out ?_; rw [hc0])
        go_roundg (gk - 1)
        case measure => omega
        case rel => exact ⟨hw, i, m, rfl, by go_num, by omega, by omega, by omega, hC'⟩
    · obtain rfl : i = j := by omega
      by_cases hin : i < g.length
      · obtain ⟨b, off, u, xs, rfl, hx, hc, hi⟩ := hgw.cell (k := i) hin
        have i1 : (i : Int) < g.length := by omega
        by_cases he : xs = p
        · have ef : Hid (Perms.idx g p = i) := Lib.hid (hC.out.found hs'.out (by rw [hx.out, he]))
          have hd : decide (xs = p) = true := decide_eq_true he
          clear he
          go_wp2_with (go_at_call 88; refine l03Same_c hi hpw ?_; intro w2 d2)
          exact intq' (H.out _ (hw.trans d2)) ef.out
        · have ef : Hid (Perms.idx g p = -1) := Lib.hid (hC.out.missed hs'.out (fun y hy => by rw [hx.out] at hy; cases hy; exact he))
          have hd : decide (xs = p) = false := decide_eq_false he
          clear he
          go_wp2_with (go_at_call 88; refine l03Same_c hi hpw ?_; intro w2 d2)
          exact intq' (H.out _ (hw.trans d2)) ef.out
      · have ef : Hid (Perms.idx g p = -1) := Lib.hid (hC.out.missed hs'.out (fun y hy => by rw [List.getElem?_eq_none (by omega)] at hy; cases hy))
        go_wp2_with fail
        exact intq' (H.out _ hw) ef.out
end Go.Proofs.Ytdjdagcgodpgdaa
/- The place of a list in an ascending one, by halving. -/
set_option linter.unusedVariables false
namespace Go.Proofs.Ytdjdagcgodpgdaa
open Go.RowKit

set_option maxHeartbeats 1000000 in
theorem bsearch_c {vg vp : Value} {g : List (List Int)} {p : List Int} {w : World} {Q : Ending → World → Prop} (hg : RowsAt w vg g) (hp : IntsAt w vp p) (hs : Perms.Asc g) (hn : g.length ≤ 1048576)
    (hQ : ∀ (w' : World) (i : Int) (b : Bool), Drawn w w' → (b = false → Perms.idx g p = -1) → (b = true → Perms.idx g p = i) → Q (.returned (.tuple #[.int .i64 i, .bool b])) w') :
    Calls Try.prog 74 #[vg, vp, .func (.func 43) #[] #[]] w Q := by
  have H := Lib.hid hQ; clear hQ
  have hs' := Lib.hid hs
  clear hs
  obtain ⟨aa, ca, rfl, la, lca, cca⟩ := hg.form
  go_enter Try.func74, Try.ntmps74
  go_wp2_with fail
  go_loopg [9, 10] g.length (fun k a b wr => Drawn w wr ∧ ∃ i j : Nat, a = .int .i64 i ∧ b = .int .i64 j ∧ i ≤ j ∧ j ≤ g.length ∧ j ≤ i + k ∧ Hid (Perms.Cut g p i j))
  case atStart => exact ⟨Drawn.refl w, 0, g.length, rfl, rfl, by omega, by omega, by omega, Lib.hid (Perms.Cut.start g p)⟩
  case round =>
    obtain ⟨hw, i, j, rfl, rfl, hij, hjn, hk, hC⟩ := hrel
    have hgw := hg.drawn hw
    have hpw := hp.drawn hw
    by_cases hlt : i < j
    · obtain ⟨m, hm⟩ : ∃ m : Nat, m = (i + j) / 2 := ⟨_, rfl⟩
      have hm1 : i ≤ m := by omega
      have hm2 : m < j := by omega
      have hmI : ((i : Int) + j) / 2 = m := by omega
      clear hm
      obtain ⟨b, off, u, xs, rfl, hx, hc, hi⟩ := hgw.cell (k := m) (by omega)
      have i1 : (m : Int) < g.length := by omega
      by_cases hc0 : Words.cmpL xs p < 0
      · have hC' : Hid (Perms.Cut g p (m + 1) j) := Lib.hid (hC.out.up hs'.out hx.out hc0)
        go_wp2_with (go_at_call 43; refine Compare_c hi hpw ?_)
        go_roundg (gk - 1)
        case measure => omega
        case rel => exact ⟨hw, m + 1, j, by go_num, rfl, by omega, by omega, by omega, hC'⟩
      · have hC' : Hid (Perms.Cut g p i m) := Lib.hid (hC.out.down hs'.out hx.out hc0)
        go_wp2_with (go_at_call 43; refine Compare_c hi hpw ?_)
        go_roundg (gk - 1)
        case measure => omega
        case rel => exact ⟨hw, i, m, rfl, by go_num, by omega, by omega, by omega, hC'⟩
    · obtain rfl : i = j := by omega
      by_cases hin : i < g.length
      · obtain ⟨b, off, u, xs, rfl, hx, hc, hi⟩ := hgw.cell (k := i) hin
        have i1 : (i : Int) < g.length := by omega
        go_wp2_with (go_at_call 43; refine Compare_c hi hpw ?_)
        refine H.out _ _ _ hw ?_ ?_
        · intro hb
          refine hC.out.missed hs'.out (fun y hy e => ?_)
          rw [hx.out] at hy
          cases hy
          subst e
          rw [Words.cmpL_self] at hb
          simp at hb
        · intro hb
          have h0 : Words.cmpL xs p = 0 := by simpa using hb
          exact hC.out.found hs'.out (by rw [hx.out, Words.cmpL_eq h0])
      · have ef : Hid (Perms.idx g p = -1) := Lib.hid (hC.out.missed hs'.out (fun y hy => by rw [List.getElem?_eq_none (by omega)] at hy; cases hy))
        go_wp2_with fail
        exact H.out _ _ _ hw (fun _ => ef.out) (fun h => by cases h)
set_option maxHeartbeats 400000 in
theorem find_i {vg vp : Value} {g : List (List Int)} {p : List Int} {w : World} {Q : Ending → World → Prop} (hg : RowsAt w vg g) (hp : IntsAt w vp p) (hs : Perms.Asc g) (hn : g.length ≤ 1048576)
    (hQ : ∀ w', Drawn w w' → Q (.returned (.int .i64 (Perms.idx g p))) w') :
    Calls Try.prog 44 #[vg, vp] w Q := by
  have H := Lib.hid hQ; clear hQ
  go_enter Try.func44, Try.ntmps44
  go_wp2_with fail
  refine bsearch_c hg hp hs hn ?_
  intro w1 i b d1 hb0 hb1
  cases b with
  | false =>
    have e := Lib.hid (hb0 rfl)
    clear hb0 hb1
    go_wp2
    exact intq' (H.out _ d1) e.out
  | true =>
    have e := Lib.hid (hb1 rfl)
    clear hb0 hb1
    go_wp2
    exact intq' (H.out _ d1) e.out
end Go.Proofs.Ytdjdagcgodpgdaa
/- Whether a list of permutations is a group. -/
set_option linter.unusedVariables false
namespace Go.Proofs.Ytdjdagcgodpgdaa
open Go.RowKit

set_option maxHeartbeats 2000000 in
theorem GroupOk_i {vg : Value} {g : List (List Int)} {w : World} {Q : Ending → World → Prop} (hg : RowsAt w vg g)
    (hQ : ∀ w', Below w.heap.size w w' → Q (.returned (.bool (Perms.grpB g))) w') :
    Calls Try.prog 18 #[vg] w Q := by
  have H := Lib.hid hQ; clear hQ
  have hg' := hg
  obtain ⟨aa, ca, rfl, la, lca, cca⟩ := hg'.form
  clear hg'
  by_cases hl : 1 ≤ (g.length : Int) ∧ (g.length : Int) ≤ 120
  · have hp : Hid (Perms.grpB g = (Perms.rowsTo g g.length && Perms.closed g)) := Lib.hid (by unfold Perms.grpB; rw [decide_eq_true (by omega), Bool.true_and])
    have hd0 : Hid (decide (1 ≤ (g.length : Int) ∧ (g.length : Int) ≤ 120) = true) := Lib.hid (decide_eq_true hl)
    obtain ⟨l1, l2⟩ := hl
    go_enter Try.func18, Try.ntmps18
    go_wp2_with fail
    go_loopg [19] g.length (fun k i wr => Below w.heap.size w wr ∧ ∃ j : Nat, i = .int .i64 j ∧ Hid (Perms.rowsTo g j = true) ∧ j + k ≤ g.length ∧ g.length ≤ j + k)
    case atStart => exact ⟨Below.refl _ _, 0, rfl, Lib.hid rfl, by omega, by omega⟩
    case round =>
      obtain ⟨hb, j, rfl, hj0, hk1, hk2⟩ := hrel
      by_cases hj : j < g.length
      · obtain ⟨b, off, u, p, rfl, hx, hcw, hi⟩ := hg.cell hj
        obtain ⟨b', off', u0, p0, e0, hx0, hc0w, hi0⟩ := hg.cell (k := 0) (by omega)
        cases e0
        rw [Nat.add_zero] at hc0w
        obtain ⟨ap, cp, rfl, lp, _, _⟩ := hi.form
        obtain ⟨a0, c0, rfl, l0, _, _⟩ := hi0.form
        have i1 : (j : Int) < g.length := by omega
        have es : Hid (Perms.rowsTo g (j + 1) = (Perms.permB p && decide (p.length = p0.length) && (j == 0 || Words.less (g.getD (j - 1) []) p))) := Lib.hid (by
          simp only [Perms.rowsTo]; rw [hj0.out, hx.out]; simp [Perms.row0, hx0.out])
        have hc := below_cells hb _ _ hcw
        go_wp2_with fail
        refine PermOk_i (hi.below hb) ?_
        intro w2 b2
        have hbb : Below w.heap.size w w2 := hb.trans (b2.mono hb.size)
        have hc2 := below_cells hbb _ _ hcw
        have hc02 := below_cells hbb _ _ hc0w
        cases hpb : Perms.permB p with
        | false =>
          have hf : Hid (Perms.grpB g = false) := Lib.hid (by rw [hp.out, Perms.rowsTo_bad hj (by rw [es.out, hpb]; rfl)]; rfl)
          go_wp2_with fail
          exact boolq' (H.out _ hbb) hf.out
        | true =>
          by_cases hle : p.length = p0.length
          · have hle' : ((p.length : Int) != p0.length) = false := by rw [hle]; simp
            by_cases hz : j = 0
            · subst hz
              have hs : Hid (Perms.rowsTo g 1 = true) := Lib.hid (by rw [es.out, hpb, decide_eq_true hle]; rfl)
              have hle2 := Lib.hid hle
              clear hle
              go_wp2_with fail
              go_roundg (gk - 1)
              case measure => omega
              case rel => exact ⟨hbb, 1, by go_num, hs, by omega, by omega⟩
            · obtain ⟨b3, off3, u3, q, e3, hx3, hc3w, hi3⟩ := hg.cell (k := j - 1) (by omega)
              cases e3
              have hc3 := below_cells hbb _ _ hc3w
              have hiu' := hi3.below hbb
              have hip' := hi.below hbb
              have hgd : Hid (g.getD (j - 1) [] = q) := Lib.hid (by simp [List.getD, hx3.out])
              have hql : q.length = p0.length := Perms.rowsTo_len hj0.out hx0.out (by omega) hx3.out
              have hz1 : (0 : Int) < j := by omega
              have hz2 : ((j : Int) - 1).toNat = j - 1 := by omega
              have hlq : q.length = p.length := by omega
              have hlq2 := Lib.hid hlq
              cases hlv0 : Words.less q p with
              | false =>
                have hlv := Lib.hid hlv0
                have hcv : ¬ Words.cmpL q p < 0 := fun h => by rw [(Words.less_neg hlq).2 h] at hlv0; cases hlv0
                have hf : Hid (Perms.grpB g = false) := Lib.hid (by rw [hp.out, Perms.rowsTo_bad hj (by rw [es.out, hpb, hgd.out, hlv0]; simp [hz])]; rfl)
                have hle2 := Lib.hid hle
                clear hlv0 hle hql hz hlq
                go_wp2_with (go_at_call 43; refine Compare_c hiu' hip' ?_)
                exact boolq' (H.out _ hbb) hf.out
              | true =>
                have hlv := Lib.hid hlv0
                have hcv : Words.cmpL q p < 0 := (Words.less_neg hlq).1 hlv0
                have hs : Hid (Perms.rowsTo g (j + 1) = true) := Lib.hid (by rw [es.out, hpb, hgd.out, hlv0, decide_eq_true hle]; simp)
                have hle2 := Lib.hid hle
                clear hlv0 hle hql hz hlq
                go_wp2_with (go_at_call 43; refine Compare_c hiu' hip' ?_)
                go_roundg (gk - 1)
                case measure => omega
                case rel => exact ⟨hbb, j + 1, by go_num, hs, by omega, by omega⟩
          · have hle' : ((p.length : Int) != p0.length) = true := by simp; omega
            have hf : Hid (Perms.grpB g = false) := Lib.hid (by rw [hp.out, Perms.rowsTo_bad hj (by rw [es.out, hpb, decide_eq_false hle]; rfl)]; rfl)
            clear hle
            go_wp2_with fail
            exact boolq' (H.out _ hbb) hf.out
      · have hR : Hid (Perms.rowsTo g g.length = true) := Lib.hid (by rw [show g.length = j from by omega]; exact hj0.out)
        have hp2 : Hid (Perms.grpB g = Perms.closed g) := Lib.hid (by rw [hp.out, hR.out, Bool.true_and])
        have hA := Lib.hid (Perms.rowsTo_asc hR.out)
        go_wp2_with fail
        clear hj0 hk1 hk2 hj
        obtain ⟨wo, hwo⟩ : ∃ wo : World, wo = wr := ⟨_, rfl⟩
        subst hwo
        go_loopg [53] g.length (fun k i wr => Below w.heap.size w wr ∧ ∃ j : Nat, i = .int .i64 j ∧ Hid (∀ p ∈ g.take j, ∀ q ∈ g, Perms.comp p q ∈ g) ∧ j + k ≤ g.length ∧ g.length ≤ j + k)
        case atStart => exact ⟨hb, 0, rfl, Lib.hid (by simp), by omega, by omega⟩
        case round =>
          obtain ⟨hb2, i, rfl, hi0, hk1, hk2⟩ := hrel
          by_cases hi : i < g.length
          · have i1 : (i : Int) < g.length := by omega
            obtain ⟨b, off, u, p, rfl, hx, hcw, hip⟩ := hg.cell hi
            have hc := below_cells hb2 _ _ hcw
            obtain ⟨ap, cp, rfl, _, _, _⟩ := hip.form
            go_wp2_with fail
            obtain ⟨wi, hwi⟩ : ∃ wi : World, wi = wr := ⟨_, rfl⟩
            subst hwi
            obtain ⟨gi, hgi⟩ : ∃ g' : Nat, g' = gk := ⟨_, rfl⟩
            subst hgi
            go_loopg [59] g.length (fun k i wr => Below w.heap.size w wr ∧ ∃ j : Nat, i = .int .i64 j ∧ Hid (∀ q ∈ g.take j, Perms.comp p q ∈ g) ∧ j + k ≤ g.length ∧ g.length ≤ j + k)
            case atStart => exact ⟨hb2, 0, rfl, Lib.hid (by simp), by omega, by omega⟩
            case round =>
              obtain ⟨hb3, m, rfl, hm0, hm1, hm2⟩ := hrel
              by_cases hm : m < g.length
              · have i2 : (m : Int) < g.length := by omega
                obtain ⟨b', off', u2, q, e3, hy, hcqw, hiq⟩ := hg.cell hm
                cases e3
                have hcq := below_cells hb3 _ _ hcqw
                go_wp2_with fail
                refine compose_i (hip.below hb3) (hiq.below hb3) (Perms.rowsTo_le hR.out hx.out) (Perms.rowsTo_in hR.out hx.out hy.out) ?_
                intro v4 w4 o4 b4
                have hb4 : Below w.heap.size w w4 := hb3.trans (b4.mono hb3.size)
                go_wp2_with fail
                refine find_i (hg.below hb4) o4.at hA.out (by omega) ?_
                intro w5 d5
                have hb5 : Below w.heap.size w w5 := hb4.trans (d5.below _)
                by_cases hin : Perms.comp p q ∈ g
                · have hi1 : 0 ≤ Perms.idx g (Perms.comp p q) := by unfold Perms.idx; rw [if_pos hin]; omega
                  have hn : Hid (∀ q ∈ g.take (m + 1), Perms.comp p q ∈ g) := Lib.hid (by
                    intro q' hq'
                    rw [List.take_add_one, hy.out] at hq'
                    rcases List.mem_append.1 hq' with h | h
                    · exact hm0.out q' h
                    · simp at h; rw [h]; exact hin)
                  clear hin
                  go_wp2_with fail
                  go_roundg (gk - 1)
                  case measure => omega
                  case rel => exact ⟨hb5, m + 1, by go_num, hn, by omega, by omega⟩
                · have hi1 : Perms.idx g (Perms.comp p q) < 0 := by unfold Perms.idx; rw [if_neg hin]; omega
                  have hf : Hid (Perms.grpB g = false) := Lib.hid (by rw [hp2.out]; exact Perms.closed_bad (List.mem_of_getElem? hx.out) (List.mem_of_getElem? hy.out) hin)
                  clear hin
                  go_wp2_with fail
                  exact boolq' (H.out _ hb5) hf.out
              · have hn : Hid (∀ p ∈ g.take (i + 1), ∀ q ∈ g, Perms.comp p q ∈ g) := Lib.hid (by
                  have hm3 := hm0.out
                  rw [List.take_of_length_le (by omega)] at hm3
                  intro p' hp'
                  rw [List.take_add_one, hx.out] at hp'
                  rcases List.mem_append.1 hp' with h | h
                  · exact hi0.out p' h
                  · simp at h; rw [h]; exact hm3)
                go_wp2_with fail
                go_roundg (gi - 1)
                case measure => omega
                case rel => exact ⟨hb3, i + 1, by go_num, hn, by omega, by omega⟩
          · have hf : Hid (Perms.grpB g = true) := Lib.hid (by
              rw [hp2.out]
              have h := hi0.out
              rw [List.take_of_length_le (by omega)] at h
              exact Perms.closed_ok h)
            go_wp2_with fail
            exact boolq' (H.out _ hb2) hf.out
  · have hf : Hid (Perms.grpB g = false) := Lib.hid (by unfold Perms.grpB; rw [decide_eq_false (by omega), Bool.false_and, Bool.false_and])
    have hd0 : Hid (decide (1 ≤ (g.length : Int) ∧ (g.length : Int) ≤ 120) = false) := Lib.hid (decide_eq_false hl)
    go_enter Try.func18, Try.ntmps18
    go_wp2
    all_goals exact boolq' (H.out _ (Below.refl _ _)) hf.out
set_option maxHeartbeats 2000000 in
theorem GroupOk_s {vg : Value} {g : List (List Int)} {w : World} {Q : Ending → World → Prop} (hg : RowsAt w vg g)
    (hQ : ∀ w', Below w.heap.size w w' → Q (.returned (.bool (Perms.grpB g))) w') :
    Calls Try.prog 67 #[vg] w Q := by
  have H := Lib.hid hQ; clear hQ
  have hg' := hg
  obtain ⟨aa, ca, rfl, la, lca, cca⟩ := hg'.form
  clear hg'
  by_cases hl : 1 ≤ (g.length : Int) ∧ (g.length : Int) ≤ 120
  · have hp : Hid (Perms.grpB g = (Perms.rowsTo g g.length && Perms.closed g)) := Lib.hid (by unfold Perms.grpB; rw [decide_eq_true (by omega), Bool.true_and])
    have hd0 : Hid (decide (1 ≤ (g.length : Int) ∧ (g.length : Int) ≤ 120) = true) := Lib.hid (decide_eq_true hl)
    obtain ⟨l1, l2⟩ := hl
    go_enter Try.func67, Try.ntmps67
    go_wp2_with (go_at_call 51; refine l01In_c ?_; rw [hd0.out])
    go_loopg [15] g.length (fun k i wr => Below w.heap.size w wr ∧ ∃ j : Nat, i = .int .i64 j ∧ Hid (Perms.rowsTo g j = true) ∧ j + k ≤ g.length ∧ g.length ≤ j + k)
    case atStart => exact ⟨Below.refl _ _, 0, rfl, Lib.hid rfl, by omega, by omega⟩
    case round =>
      obtain ⟨hb, j, rfl, hj0, hk1, hk2⟩ := hrel
      by_cases hj : j < g.length
      · obtain ⟨b, off, u, p, rfl, hx, hcw, hi⟩ := hg.cell hj
        obtain ⟨b', off', u0, p0, e0, hx0, hc0w, hi0⟩ := hg.cell (k := 0) (by omega)
        cases e0
        rw [Nat.add_zero] at hc0w
        obtain ⟨ap, cp, rfl, lp, _, _⟩ := hi.form
        obtain ⟨a0, c0, rfl, l0, _, _⟩ := hi0.form
        have i1 : (j : Int) < g.length := by omega
        have es : Hid (Perms.rowsTo g (j + 1) = (Perms.permB p && decide (p.length = p0.length) && (j == 0 || Words.less (g.getD (j - 1) []) p))) := Lib.hid (by
          simp only [Perms.rowsTo]; rw [hj0.out, hx.out]; simp [Perms.row0, hx0.out])
        have hc := below_cells hb _ _ hcw
        go_wp2_with fail
        refine PermOk_s (hi.below hb) ?_
        intro w2 b2
        have hbb : Below w.heap.size w w2 := hb.trans (b2.mono hb.size)
        have hc2 := below_cells hbb _ _ hcw
        have hc02 := below_cells hbb _ _ hc0w
        cases hpb : Perms.permB p with
        | false =>
          have hf : Hid (Perms.grpB g = false) := Lib.hid (by rw [hp.out, Perms.rowsTo_bad hj (by rw [es.out, hpb]; rfl)]; rfl)
          go_wp2_with fail
          exact boolq' (H.out _ hbb) hf.out
        | true =>
          by_cases hle : p.length = p0.length
          · have hle' : ((p.length : Int) != p0.length) = false := by rw [hle]; simp
            by_cases hz : j = 0
            · subst hz
              have hs : Hid (Perms.rowsTo g 1 = true) := Lib.hid (by rw [es.out, hpb, decide_eq_true hle]; rfl)
              have hle2 := Lib.hid hle
              clear hle
              go_wp2_with fail
              go_roundg (gk - 1)
              case measure => omega
              case rel => exact ⟨hbb, 1, by go_num, hs, by omega, by omega⟩
            · obtain ⟨b3, off3, u3, q, e3, hx3, hc3w, hi3⟩ := hg.cell (k := j - 1) (by omega)
              cases e3
              have hc3 := below_cells hbb _ _ hc3w
              have hiu' := hi3.below hbb
              have hip' := hi.below hbb
              have hgd : Hid (g.getD (j - 1) [] = q) := Lib.hid (by simp [List.getD, hx3.out])
              have hql : q.length = p0.length := Perms.rowsTo_len hj0.out hx0.out (by omega) hx3.out
              have hz1 : (0 : Int) < j := by omega
              have hz2 : ((j : Int) - 1).toNat = j - 1 := by omega
              have hlq : q.length = p.length := by omega
              have hlq2 := Lib.hid hlq
              cases hlv0 : Words.less q p with
              | false =>
                have hlv := Lib.hid hlv0
                have hcv : ¬ Words.cmpL q p < 0 := fun h => by rw [(Words.less_neg hlq).2 h] at hlv0; cases hlv0
                have hf : Hid (Perms.grpB g = false) := Lib.hid (by rw [hp.out, Perms.rowsTo_bad hj (by rw [es.out, hpb, hgd.out, hlv0]; simp [hz])]; rfl)
                have hle2 := Lib.hid hle
                clear hlv0 hle hql hz hlq
                go_wp2_with (go_at_call 87; refine l03Less_c hiu' hip' hlq2.out ?_; rw [hlv.out])
                exact boolq' (H.out _ hbb) hf.out
              | true =>
                have hlv := Lib.hid hlv0
                have hcv : Words.cmpL q p < 0 := (Words.less_neg hlq).1 hlv0
                have hs : Hid (Perms.rowsTo g (j + 1) = true) := Lib.hid (by rw [es.out, hpb, hgd.out, hlv0, decide_eq_true hle]; simp)
                have hle2 := Lib.hid hle
                clear hlv0 hle hql hz hlq
                go_wp2_with (go_at_call 87; refine l03Less_c hiu' hip' hlq2.out ?_; rw [hlv.out])
                go_roundg (gk - 1)
                case measure => omega
                case rel => exact ⟨hbb, j + 1, by go_num, hs, by omega, by omega⟩
          · have hle' : ((p.length : Int) != p0.length) = true := by simp; omega
            have hf : Hid (Perms.grpB g = false) := Lib.hid (by rw [hp.out, Perms.rowsTo_bad hj (by rw [es.out, hpb, decide_eq_false hle]; rfl)]; rfl)
            clear hle
            go_wp2_with fail
            exact boolq' (H.out _ hbb) hf.out
      · have hR : Hid (Perms.rowsTo g g.length = true) := Lib.hid (by rw [show g.length = j from by omega]; exact hj0.out)
        have hp2 : Hid (Perms.grpB g = Perms.closed g) := Lib.hid (by rw [hp.out, hR.out, Bool.true_and])
        have hA := Lib.hid (Perms.rowsTo_asc hR.out)
        go_wp2_with fail
        clear hj0 hk1 hk2 hj
        obtain ⟨wo, hwo⟩ : ∃ wo : World, wo = wr := ⟨_, rfl⟩
        subst hwo
        go_loopg [49] g.length (fun k i wr => Below w.heap.size w wr ∧ ∃ j : Nat, i = .int .i64 j ∧ Hid (∀ p ∈ g.take j, ∀ q ∈ g, Perms.comp p q ∈ g) ∧ j + k ≤ g.length ∧ g.length ≤ j + k)
        case atStart => exact ⟨hb, 0, rfl, Lib.hid (by simp), by omega, by omega⟩
        case round =>
          obtain ⟨hb2, i, rfl, hi0, hk1, hk2⟩ := hrel
          by_cases hi : i < g.length
          · have i1 : (i : Int) < g.length := by omega
            obtain ⟨b, off, u, p, rfl, hx, hcw, hip⟩ := hg.cell hi
            have hc := below_cells hb2 _ _ hcw
            obtain ⟨ap, cp, rfl, _, _, _⟩ := hip.form
            go_wp2_with fail
            obtain ⟨wi, hwi⟩ : ∃ wi : World, wi = wr := ⟨_, rfl⟩
            subst hwi
            obtain ⟨gi, hgi⟩ : ∃ g' : Nat, g' = gk := ⟨_, rfl⟩
            subst hgi
            go_loopg [55] g.length (fun k i wr => Below w.heap.size w wr ∧ ∃ j : Nat, i = .int .i64 j ∧ Hid (∀ q ∈ g.take j, Perms.comp p q ∈ g) ∧ j + k ≤ g.length ∧ g.length ≤ j + k)
            case atStart => exact ⟨hb2, 0, rfl, Lib.hid (by simp), by omega, by omega⟩
            case round =>
              obtain ⟨hb3, m, rfl, hm0, hm1, hm2⟩ := hrel
              by_cases hm : m < g.length
              · have i2 : (m : Int) < g.length := by omega
                obtain ⟨b', off', u2, q, e3, hy, hcqw, hiq⟩ := hg.cell hm
                cases e3
                have hcq := below_cells hb3 _ _ hcqw
                go_wp2_with fail
                refine compose_s (hip.below hb3) (hiq.below hb3) (Perms.rowsTo_le hR.out hx.out) (Perms.rowsTo_in hR.out hx.out hy.out) ?_
                intro v4 w4 o4 b4
                have hb4 : Below w.heap.size w w4 := hb3.trans (b4.mono hb3.size)
                go_wp2_with fail
                refine find_s (hg.below hb4) o4.at hA.out (by omega) (fun x hx2 => by rw [Perms.comp_len]; exact Perms.rowsTo_same hR.out hx2 hx.out) ?_
                intro w5 d5
                have hb5 : Below w.heap.size w w5 := hb4.trans (d5.below _)
                by_cases hin : Perms.comp p q ∈ g
                · have hi1 : 0 ≤ Perms.idx g (Perms.comp p q) := by unfold Perms.idx; rw [if_pos hin]; omega
                  have hn : Hid (∀ q ∈ g.take (m + 1), Perms.comp p q ∈ g) := Lib.hid (by
                    intro q' hq'
                    rw [List.take_add_one, hy.out] at hq'
                    rcases List.mem_append.1 hq' with h | h
                    · exact hm0.out q' h
                    · simp at h; rw [h]; exact hin)
                  clear hin
                  go_wp2_with fail
                  go_roundg (gk - 1)
                  case measure => omega
                  case rel => exact ⟨hb5, m + 1, by go_num, hn, by omega, by omega⟩
                · have hi1 : Perms.idx g (Perms.comp p q) < 0 := by unfold Perms.idx; rw [if_neg hin]; omega
                  have hf : Hid (Perms.grpB g = false) := Lib.hid (by rw [hp2.out]; exact Perms.closed_bad (List.mem_of_getElem? hx.out) (List.mem_of_getElem? hy.out) hin)
                  clear hin
                  go_wp2_with fail
                  exact boolq' (H.out _ hb5) hf.out
              · have hn : Hid (∀ p ∈ g.take (i + 1), ∀ q ∈ g, Perms.comp p q ∈ g) := Lib.hid (by
                  have hm3 := hm0.out
                  rw [List.take_of_length_le (by omega)] at hm3
                  intro p' hp'
                  rw [List.take_add_one, hx.out] at hp'
                  rcases List.mem_append.1 hp' with h | h
                  · exact hi0.out p' h
                  · simp at h; rw [h]; exact hm3)
                go_wp2_with fail
                go_roundg (gi - 1)
                case measure => omega
                case rel => exact ⟨hb3, i + 1, by go_num, hn, by omega, by omega⟩
          · have hf : Hid (Perms.grpB g = true) := Lib.hid (by
              rw [hp2.out]
              have h := hi0.out
              rw [List.take_of_length_le (by omega)] at h
              exact Perms.closed_ok h)
            go_wp2_with fail
            exact boolq' (H.out _ hb2) hf.out
  · have hf : Hid (Perms.grpB g = false) := Lib.hid (by unfold Perms.grpB; rw [decide_eq_false (by omega), Bool.false_and, Bool.false_and])
    have hd0 : Hid (decide (1 ≤ (g.length : Int) ∧ (g.length : Int) ≤ 120) = false) := Lib.hid (decide_eq_false hl)
    clear hl
    go_enter Try.func67, Try.ntmps67
    go_wp2_with (go_at_call 51; refine l01In_c ?_; rw [hd0.out])
    all_goals exact boolq' (H.out _ (Below.refl _ _)) hf.out
end Go.Proofs.Ytdjdagcgodpgdaa
/- The least image of a coloring. -/
set_option linter.unusedVariables false
namespace Go.Proofs.Ytdjdagcgodpgdaa
open Go.RowKit

set_option maxHeartbeats 800000 in
theorem canon_i {vg vl : Value} {g : List (List Int)} {l : List Int} {w : World} {Q : Ending → World → Prop} (hg : RowsAt w vg g) (hl : IntsAt w vl l) (hf : Perms.Fit g l)
    (hQ : ∀ v w', OwnInts w' w.heap.size v (Perms.canon g l) → Below w.heap.size w w' → Q (.returned v) w') :
    Calls Try.prog 82 #[vg, vl] w Q := by
  have H := Lib.hid hQ; clear hQ
  obtain ⟨hf1, hf2, hf3⟩ := hf
  have hf1' := Lib.hid hf1
  clear hf1
  obtain ⟨aa, ca, rfl, la, lca, cca⟩ := hg.form
  obtain ⟨al, cl, rfl, ll, lcl, ccl⟩ := hl.form
  go_enter Try.func82, Try.ntmps82
  go_wp2_with fail
  go_loopg [5, 12] g.length (fun k b i wr => Below w.heap.size w wr ∧ ∃ j : Nat, i = .int .i64 j ∧ IntsAt wr b (Perms.canonTo g l j) ∧ j + k ≤ g.length ∧ g.length ≤ j + k)
  case atStart => exact ⟨Below.refl _ _, 0, rfl, hl, by omega, by omega⟩
  case round =>
    obtain ⟨hbw, j, rfl, ho, hk1, hk2⟩ := hrel
    by_cases hj : j < g.length
    · have i1 : (j : Int) < g.length := by omega
      obtain ⟨b, off, u, p, rfl, hx, hcw, hip⟩ := hg.cell hj
      have hc := below_cells hbw _ _ hcw
      obtain ⟨fp1, fp2⟩ := hf1'.out p (List.mem_of_getElem? hx.out)
      have fp1' := Lib.hid fp1
      have fp2' := Lib.hid fp2
      clear fp1 fp2
      have es := Lib.hid (Perms.canonTo_step (l := l) hx.out)
      have el := Lib.hid (Perms.canonTo_len g l j)
      go_wp2_with fail
      refine act_i (hip.below hbw) (hl.below hbw) (by omega) fp1'.out fp2'.out ?_
      intro v2 w2 o2 b2
      have hbw2 : Below w.heap.size w w2 := hbw.trans (b2.mono hbw.size)
      have ho2 := ho.below b2
      by_cases hb : Words.cmpL (Perms.act p l) (Perms.canonTo g l j) < 0
      · have es2 := es.out
        rw [if_pos hb] at es2
        have es3 := Lib.hid es2
        clear es2 es
        go_wp2_with fail
        refine Compare_c o2.at ho2 ?_
        go_wp2_with fail
        go_roundg (gk - 1)
        case measure => omega
        case rel => exact ⟨hbw2, j + 1, by go_num, by rw [es3.out]; exact o2.at, by omega, by omega⟩
      · have es2 := es.out
        rw [if_neg hb] at es2
        have es3 := Lib.hid es2
        clear es2 es
        go_wp2_with fail
        refine Compare_c o2.at ho2 ?_
        go_wp2_with fail
        go_roundg (gk - 1)
        case measure => omega
        case rel => exact ⟨hbw2, j + 1, by go_num, by rw [es3.out]; exact ho2, by omega, by omega⟩
    · obtain rfl : j = g.length := by omega
      have el := Lib.hid (Perms.canonTo_len g l g.length)
      go_wp2_with fail
      refine Clone_c ho (by rw [el.out]; omega) ?_
      intro v3 w3 o3 b3
      go_wp2_with fail
      exact H.out _ _ (OwnInts.mono o3 hbw.size) (hbw.trans (b3.mono hbw.size))
end Go.Proofs.Ytdjdagcgodpgdaa
/- What keeps a coloring. -/
set_option linter.unusedVariables false
namespace Go.Proofs.Ytdjdagcgodpgdaa
open Go.RowKit

end Go.Proofs.Ytdjdagcgodpgdaa
/- How many images a coloring has; laws. -/
set_option linter.unusedVariables false
namespace Go.Proofs.Ytdjdagcgodpgdaa
open Go.RowKit

theorem Perms.sumLen_rows {n : Nat} : ∀ {g : List (List Int)}, (∀ p ∈ g, p.length ≤ n) → sumLen g ≤ g.length * n
  | [], _ => by simp [sumLen]
  | p :: g, h => by
    have := Perms.sumLen_rows (g := g) (n := n) fun q hq => h q (by simp [hq])
    have h1 := h p (by simp)
    simp only [sumLen, List.length_cons, Nat.succ_mul]
    omega
theorem Perms.keepW_sum (g : List (List Int)) (l : List Int) : (Perms.keepW g l).length + sumLen (Perms.keepW g l) ≤ 4611686018427 := by
  unfold Perms.keepW
  split
  · rename_i h
    obtain ⟨h1, h2, h3⟩ := Perms.fitsB_fit h
    have a := Perms.keepTo_len g l g.length
    rw [Perms.keepTo_all g l (Nat.le_refl _)] at a
    have b := Perms.sumLen_rows (n := 10) (g := Perms.keep g l) fun p hp => by
      have := (h1 p (by unfold Perms.keep at hp; exact (List.mem_filter.1 hp).1)).1
      omega
    omega
  · simp [sumLen]
end Go.Proofs.Ytdjdagcgodpgdaa
