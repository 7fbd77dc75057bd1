/-
  What the laws' own helpers do: copies, comparisons and marks of slices of integers.
-/
import Derived.Test.YtdjdagcgodpgdaaGreatMem
set_option linter.unusedVariables false
namespace Go.Proofs.YtdjdagcgodpgdaaGreat
open Go.RowKit

set_option maxHeartbeats 400000 in
theorem eqIntS_c {va vb : Value} {xs ys : List Int} {w : World} {Q : Ending → World → Prop} (ha : IntsAt w va xs) (hb : IntsAt w vb ys) (hQ : ∀ w', Drawn w w' → Q (.returned (.bool (decide (xs = ys)))) w') :
    Calls Tryz.prog 19 #[va, vb] w Q := by
  have H := Lib.hid hQ; clear hQ
  obtain ⟨aa, ca, rfl, la, lca, cca⟩ := ha.form
  obtain ⟨ab, cb, rfl, lb, lcb, ccb⟩ := hb.form
  by_cases hl : xs.length = ys.length
  · have hl' : ((xs.length : Int) != ys.length) = false := by rw [hl]; simp
    have hl'' := Lib.hid hl
    clear hl
    go_enter Tryz.func19, Tryz.ntmps19
    go_wp2
    go_loopg [5] xs.length (fun k i wr => Drawn w wr ∧ ∃ j : Nat, i = .int .i64 j ∧ Hid (xs.take j = ys.take j) ∧ j + k ≤ xs.length ∧ xs.length ≤ j + k)
    case atStart => exact ⟨Drawn.refl w, 0, rfl, Lib.hid rfl, by omega, by omega⟩
    case round =>
      obtain ⟨hw, j, rfl, hg, hk1, hk2⟩ := hrel
      by_cases hj : j < xs.length
      · have hjy : j < ys.length := by have := hl''.out; omega
        have haw := ha.drawn hw
        have hbw := hb.drawn hw
        obtain ⟨ba, oa, x, rfl, hx, hcx⟩ := haw.cell hj
        obtain ⟨bb, ob, y, rfl, hy, hcy⟩ := hbw.cell hjy
        have i1 : (j : Int) < xs.length := by omega
        have i2 : (j : Int) < ys.length := by omega
        by_cases hxy : x = y
        · subst hxy
          have hne : (x != x) = false := by simp
          go_wp2
          go_quiet (fail)
          go_wp2
          go_roundg (gk - 1)
          case measure => omega
          case rel => exact ⟨hw.next nq, j + 1, by go_num, Lib.hid (by rw [List.take_add_one, List.take_add_one, hx.out, hy.out, hg.out]), by omega, by omega⟩
        · have hne : (x != y) = true := by simpa using hxy
          have hf : Hid (decide (xs = ys) = false) := Lib.hid (by
            rw [decide_eq_false_iff_not]
            intro e
            have h1 := hx.out
            rw [e, hy.out] at h1
            exact hxy (Option.some.inj h1).symm)
          clear hxy
          go_wp2
          go_quiet (fail)
          go_wp2
          have hq := H.out _ (hw.next nq)
          rw [hf.out] at hq
          simpa using hq
      · go_wp2
        have e : xs = ys := by
          have h1 := hg.out
          have h2 := hl''.out
          rw [List.take_of_length_le (by omega), List.take_of_length_le (by omega)] at h1
          exact h1
        have hq := H.out _ hw
        rw [decide_eq_true e] at hq
        exact hq
  · have hl' : ((xs.length : Int) != ys.length) = true := by simp; omega
    have hf : Hid (decide (xs = ys) = false) := Lib.hid (by rw [decide_eq_false_iff_not]; intro e; exact hl (by rw [e]))
    clear hl
    go_enter Tryz.func19, Tryz.ntmps19
    go_wp2
    have hq := H.out _ (Drawn.refl w)
    rw [hf.out] at hq
    exact hq
set_option maxHeartbeats 400000 in
theorem markIntS_c {v : Value} {xs : List Int} {k : Int} {B : Nat} {w : World} {Q : Ending → World → Prop} (ho : OwnInts w B v xs) (hk0 : 0 ≤ k) (hk : k ≤ 4611686018427387904) (hn : xs.length ≤ 4611686018427387) 
    (hQ : ∀ w', OwnInts w' B v (marks k xs.length) → w.grownBy w' v.ownBlock → Q (.returned (.int .i64 (k + xs.length))) w') :
    Calls Tryz.prog 20 #[v, .int .i64 k] w Q := by
  have H := Lib.hid hQ; clear hQ
  obtain ⟨aa, ca, rfl, la, lca, cca⟩ := Own.form ho
  rw [ints_len] at *
  go_enter Tryz.func20, Tryz.ntmps20
  go_wp2
  go_loopg [1, 5] xs.length (fun g x i wr => ∃ j : Nat, x = .int .i64 (k + j) ∧ i = .int .i64 j ∧ OwnInts wr B (.slice aa xs.length ca) (marks k j ++ xs.drop j) ∧ w.grownBy wr (Value.ownBlock (.slice aa xs.length ca)) ∧ j + g ≤ xs.length ∧ xs.length ≤ j + g)
  case atStart => exact ⟨0, by simp, rfl, by simpa [marks] using ho, World.grownBy.refl _ _, by omega, by omega⟩
  case round =>
    obtain ⟨j, rfl, rfl, hr, hg, hk1, hk2⟩ := hrel
    have hl : (marks k j ++ xs.drop j).length = j + (xs.length - j) := by rw [List.length_append, marks_len, List.length_drop]
    by_cases hj : j < xs.length
    · have i1 : (j : Int) < xs.length := by omega
      obtain ⟨b, rfl, hb1, hb2⟩ := Own.head hr (by rw [ints_len, hl]; omega)
      have hfr := Own.frozen hr j
      obtain ⟨x0, _, hc0⟩ := OwnInts.cell hr (k := j) (by rw [hl]; omega)
      have hl' := Lib.hid hl
      clear hl
      go_wp2
      go_roundg (gk - 1)
      case measure => omega
      case rel =>
        have ho' := OwnInts.set hr j (k + j)
        rw [marks_step hj] at ho'
        exact ⟨j + 1, by go_num, by go_num, ho', grown_trans hg (grown_set _ _ _ _), by omega, by omega⟩
    · have hl' := Lib.hid hl
      clear hl
      go_wp2
      have e : j = xs.length := by omega
      subst e
      rw [List.drop_length, List.append_nil] at hr
      exact H.out _ hr hg
set_option maxHeartbeats 400000 in
theorem heldIntS_c {v : Value} {k : Int} {n : Nat} {w : World} {Q : Ending → World → Prop} (ho : IntsAt w v (marks k n)) (hk0 : 0 ≤ k) (hk : k ≤ 4611686018427387904) (hn : n ≤ 4611686018427387) 
    (hQ : Q (.returned (.int .i64 (k + n))) w) :
    Calls Tryz.prog 21 #[v, .int .i64 k] w Q := by
  have H := Lib.hid hQ; clear hQ
  obtain ⟨aa, ca, rfl, la, lca, cca⟩ := ho.form
  rw [marks_len] at *
  go_enter Tryz.func21, Tryz.ntmps21
  go_wp2
  go_loopg [1, 5] n (fun g x i wr => Hid (wr = w) ∧ ∃ j : Nat, x = .int .i64 (k + j) ∧ i = .int .i64 j ∧ j + g ≤ n ∧ n ≤ j + g)
  case atStart => exact ⟨Lib.hid rfl, 0, by simp, rfl, by omega, by omega⟩
  case round =>
    obtain ⟨hw, j, rfl, rfl, hk1, hk2⟩ := hrel
    obtain rfl := hw.out
    clear hw
    by_cases hj : j < n
    · have i1 : (j : Int) < n := by omega
      obtain ⟨b, off, x, rfl, hx, hc⟩ := ho.cell (k := j) (by rw [marks_len]; exact hj)
      have hx' := hx.out
      rw [marks_get k hj] at hx'
      obtain rfl := Option.some.inj hx'
      clear hx' hx
      go_wp2
      go_roundg (gk - 1)
      case measure => omega
      case rel => exact ⟨Lib.hid rfl, j + 1, by go_num, by go_num, by omega, by omega⟩
    · obtain rfl : j = n := by omega
      go_wp2
      exact H.out
end Go.Proofs.YtdjdagcgodpgdaaGreat
