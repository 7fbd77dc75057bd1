/-
  Where a word stands in a list: what PlaceOf computes.
-/
import Derived.Test.YtmlmpneikhdgcaaLaw
import Derived.Test.YtmlmpneikhdgcaaInts
import Derived.Test.YtmlmpneikhdgcaaWords
set_option linter.unusedVariables false
namespace Go.Proofs.Ytmlmpneikhdgcaa
open Go.RowKit

set_option maxHeartbeats 800000 in
theorem PlaceOf_i {va vb : Value} {xs ys : List Int} {w : World} {Q : Ending → World → Prop} (ha : IntsAt w va xs) (hb : IntsAt w vb ys) (hxl : xs.length ≤ 1048576) (hyl : ys.length ≤ 1048576)
    (hQ : ∀ w', Drawn w w' → Q (.returned (.int .i64 (Words.placeOf xs ys))) w') :
    Calls Try.prog 47 #[va, vb] w Q := by
  have H := Lib.hid hQ; clear hQ
  obtain ⟨aa, ca, rfl, la, lca, cca⟩ := ha.form
  obtain ⟨ab, cb, rfl, lb, lcb, ccb⟩ := hb.form
  by_cases hy0 : ys.length = 0
  · have e : Hid (Words.placeOf xs ys = -1) := Lib.hid (by unfold Words.placeOf; rw [if_pos hy0])
    have hy0' : ((ys.length : Int) == 0) = true := by rw [hy0]; rfl
    clear hy0
    go_enter Try.func47, Try.ntmps47
    go_wp2
    exact intq (H.out _ (Drawn.refl w)) e.out
  · have e : Hid (Words.placeOf xs ys = Words.plcFrom xs ys xs.length 0) := Lib.hid (by unfold Words.placeOf; rw [if_neg hy0])
    have hy0' : ((ys.length : Int) == 0) = false := beq_eq_false_iff_ne.2 (by omega)
    have hy1 : 0 < ys.length := by omega
    clear hy0
    go_enter Try.func47, Try.ntmps47
    go_wp2
    go_loopg [14] xs.length (fun g i wr => Drawn w wr ∧ ∃ j : Nat, i = .int .i64 j ∧ Hid (Words.plcFrom xs ys g j = Words.placeOf xs ys) ∧ j + g ≤ xs.length ∧ xs.length ≤ j + g)
    case atStart => exact ⟨Drawn.refl w, 0, rfl, Lib.hid e.out.symm, by omega, by omega⟩
    case round =>
      obtain ⟨hw, j, rfl, hg, hk1, hk2⟩ := hrel
      by_cases hj : j < xs.length
      · have i1 : (j : Int) < xs.length := by omega
        obtain ⟨wo, hwo⟩ : ∃ wo : World, wo = wr := ⟨_, rfl⟩
        subst hwo
        obtain ⟨gk', hgk⟩ : ∃ g : Nat, g = gk := ⟨_, rfl⟩
        subst hgk
        go_wp2
        go_loopg [6, 19] (ys.length) (fun g' s i wr => Drawn w wr ∧ ∃ m : Nat, s = .bool true ∧ i = .int .i64 m ∧ Hid (Words.matchTo xs ys j m = true) ∧ m + g' ≤ ys.length ∧ ys.length ≤ m + g')
        case atStart => exact ⟨hw, 0, rfl, rfl, Lib.hid rfl, by omega, by omega⟩
        case round =>
          obtain ⟨hw2, m, rfl, rfl, hm, hm1, hm2⟩ := hrel
          by_cases hmy : m < ys.length
          · have hq : (j + m) % xs.length < xs.length := Nat.mod_lt _ (by omega)
            have haw := ha.drawn hw2
            have hbw := hb.drawn hw2
            obtain ⟨ba, oa, x, rfl, hx, hcx⟩ := haw.cell hq
            obtain ⟨bb, ob, y, rfl, hy, hcy⟩ := hbw.cell hmy
            have i2 : (m : Int) < ys.length := by omega
            have i3 : ((j : Int) + m) % xs.length < xs.length := Int.emod_lt_of_pos _ (by omega)
            have i4 : 0 ≤ ((j : Int) + m) % xs.length := Int.emod_nonneg _ (by omega)
            have es : Hid (Words.matchTo xs ys j (m + 1) = (x == y)) := Lib.hid (by
              simp only [Words.matchTo]; rw [hm.out, hx.out, hy.out]; simp)
            by_cases hxy : x = y
            · subst hxy
              have hne : (x != x) = false := by simp
              go_wp2
              go_roundg (gk - 1)
              case measure => omega
              case rel => exact ⟨hw2, m + 1, rfl, by go_num, Lib.hid (by rw [es.out]; simp), by omega, by omega⟩
            · have hne : (x != y) = true := by simpa using hxy
              have ef : Hid (Words.plcFrom xs ys (gk' - 1) (j + 1) = Words.placeOf xs ys) := Lib.hid (by
                have h1 := hg.out
                rw [show gk' = (gk' - 1) + 1 from by omega] at h1
                simp only [Words.plcFrom] at h1
                have h2 : Words.matchTo xs ys j (m + 1) = false := by rw [es.out]; simpa using hxy
                rw [if_neg (by rw [Words.matchTo_false h2 _ (by omega)]; simp)] at h1
                exact h1)
              clear hxy es
              go_wp2
              go_roundg (gk' - 1)
              case measure => omega
              case rel => exact ⟨hw2, j + 1, by go_num, ef, by omega, by omega⟩
          · have ef : Hid ((j : Int) = Words.placeOf xs ys) := Lib.hid (by
              have h1 := hg.out
              rw [show gk' = (gk' - 1) + 1 from by omega] at h1
              simp only [Words.plcFrom] at h1
              rw [show ys.length = m from by omega, if_pos hm.out] at h1
              exact h1)
            go_wp2
            exact intq (H.out _ hw2) ef.out.symm
      · have ef : Hid (-1 = Words.placeOf xs ys) := Lib.hid (by
          have h1 := hg.out
          rw [show gk = 0 from by omega] at h1
          exact h1)
        go_wp2
        exact intq (H.out _ hw) ef.out.symm
end Go.Proofs.Ytmlmpneikhdgcaa
