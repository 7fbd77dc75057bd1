/-
  Where a word stands in a list: what PlaceOf computes.
-/
import Derived.Test.YtieihnclolaflaaLaw
import Derived.Test.YtieihnclolaflaaInts
import Derived.Test.YtieihnclolaflaaWords
set_option linter.unusedVariables false
namespace Go.Proofs.Ytieihnclolaflaa
open Go.RowKit

set_option maxHeartbeats 800000 in
theorem PlaceOf_i {va vb : Value} {xs ys : List Int} {w : World} {Q : Ending → World → Prop} (ha : IntsAt w va xs) (hb : IntsAt w vb ys) (hxl : xs.length ≤ 1048576) (hyl : ys.length ≤ 1048576)
    (hQ : ∀ w', Drawn w w' → Q (.returned (.int .i64 (Words.placeOf xs ys))) w') :
    Calls Try.prog 24 #[va, vb] w Q := by
  have H := Lib.hid hQ; clear hQ
  obtain ⟨aa, ca, rfl, la, lca, cca⟩ := ha.form
  obtain ⟨ab, cb, rfl, lb, lcb, ccb⟩ := hb.form
  by_cases hy0 : ys.length = 0
  · have e : Hid (Words.placeOf xs ys = -1) := Lib.hid (by unfold Words.placeOf; rw [if_pos hy0])
    have hy0' : ((ys.length : Int) == 0) = true := by rw [hy0]; rfl
    clear hy0
    go_enter Try.func24, Try.ntmps24
    go_wp2
    exact intq (H.out _ (Drawn.refl w)) e.out
  · have e : Hid (Words.placeOf xs ys = Words.plcFrom xs ys xs.length 0) := Lib.hid (by unfold Words.placeOf; rw [if_neg hy0])
    have hy0' : ((ys.length : Int) == 0) = false := beq_eq_false_iff_ne.2 (by omega)
    have hy1 : 0 < ys.length := by omega
    clear hy0
    go_enter Try.func24, Try.ntmps24
    go_wp2
    go_loopg [14] xs.length (fun g i wr => Drawn w wr ∧ ∃ j : Nat, i = .int .i64 j ∧ Hid (Words.plcFrom xs ys g j = Words.placeOf xs ys) ∧ j + g ≤ xs.length ∧ xs.length ≤ j + g)
    case atStart => exact ⟨Drawn.refl w, 0, rfl, Lib.hid e.out.symm, by omega, by omega⟩
    case round =>
      obtain ⟨hw, j, rfl, hg, hk1, hk2⟩ := hrel
      by_cases hj : j < xs.length
      · have i1 : (j : Int) < xs.length := by omega
        obtain ⟨wo, hwo⟩ : ∃ wo : World, wo = wr := ⟨_, rfl⟩
        subst hwo
        obtain ⟨gk', hgk⟩ : ∃ g : Nat, g = gk := ⟨_, rfl⟩
        subst hgk
        go_wp2
        go_loopg [6, 19] (ys.length) (fun g' s i wr => Drawn w wr ∧ ∃ m : Nat, s = .bool true ∧ i = .int .i64 m ∧ Hid (Words.matchTo xs ys j m = true) ∧ m + g' ≤ ys.length ∧ ys.length ≤ m + g')
        case atStart => exact ⟨hw, 0, rfl, rfl, Lib.hid rfl, by omega, by omega⟩
        case round =>
          obtain ⟨hw2, m, rfl, rfl, hm, hm1, hm2⟩ := hrel
          by_cases hmy : m < ys.length
          · have hq : (j + m) % xs.length < xs.length := Nat.mod_lt _ (by omega)
            have haw := ha.drawn hw2
            have hbw := hb.drawn hw2
            obtain ⟨ba, oa, x, rfl, hx, hcx⟩ := haw.cell hq
            obtain ⟨bb, ob, y, rfl, hy, hcy⟩ := hbw.cell hmy
            have i2 : (m : Int) < ys.length := by omega
            have i3 : ((j : Int) + m) % xs.length < xs.length := Int.emod_lt_of_pos _ (by omega)
            have i4 : 0 ≤ ((j : Int) + m) % xs.length := Int.emod_nonneg _ (by omega)
            have es : Hid (Words.matchTo xs ys j (m + 1) = (x == y)) := Lib.hid (by
              simp only [Words.matchTo]; rw [hm.out, hx.out, hy.out]; simp)
            by_cases hxy : x = y
            · subst hxy
              have hne : (x != x) = false := by simp
              go_wp2
              go_roundg (gk - 1)
              case measure => omega
              case rel => exact ⟨hw2, m + 1, rfl, by go_num, Lib.hid (by rw [es.out]; simp), by omega, by omega⟩
            · have hne : (x != y) = true := by simpa using hxy
              have ef : Hid (Words.plcFrom xs ys (gk' - 1) (j + 1) = Words.placeOf xs ys) := Lib.hid (by
                have h1 := hg.out
                rw [show gk' = (gk' - 1) + 1 from by omega] at h1
                simp only [Words.plcFrom] at h1
                have h2 : Words.matchTo xs ys j (m + 1) = false := by rw [es.out]; simpa using hxy
                rw [if_neg (by rw [Words.matchTo_false h2 _ (by omega)]; simp)] at h1
                exact h1)
              clear hxy es
              go_wp2
              go_roundg (gk' - 1)
              case measure => omega
              case rel => exact ⟨hw2, j + 1, by go_num, ef, by omega, by omega⟩
          · have ef : Hid ((j : Int) = Words.placeOf xs ys) := Lib.hid (by
              have h1 := hg.out
              rw [show gk' = (gk' - 1) + 1 from by omega] at h1
              simp only [Words.plcFrom] at h1
              rw [show ys.length = m from by omega, if_pos hm.out] at h1
              exact h1)
            go_wp2
            exact intq (H.out _ hw2) ef.out.symm
      · have ef : Hid (-1 = Words.placeOf xs ys) := Lib.hid (by
          have h1 := hg.out
          rw [show gk = 0 from by omega] at h1
          exact h1)
        go_wp2
        exact intq (H.out _ hw) ef.out.symm
set_option maxHeartbeats 800000 in
theorem PlaceOf_s {va vb : Value} {xs ys : List Int} {w : World} {Q : Ending → World → Prop} (ha : IntsAt w va xs) (hb : IntsAt w vb ys) (hxl : xs.length ≤ 1048576) (hyl : ys.length ≤ 1048576)
    (hQ : ∀ w', Drawn w w' → Q (.returned (.int .i64 (Words.placeOf xs ys))) w') :
    Calls Try.prog 22 #[va, vb] w Q := by
  have H := Lib.hid hQ; clear hQ
  obtain ⟨aa, ca, rfl, la, lca, cca⟩ := ha.form
  obtain ⟨ab, cb, rfl, lb, lcb, ccb⟩ := hb.form
  by_cases hy0 : ys.length = 0
  · have e : Hid (Words.placeOf xs ys = -1) := Lib.hid (by unfold Words.placeOf; rw [if_pos hy0])
    have hy0' : ((ys.length : Int) == 0) = true := by rw [hy0]; rfl
    clear hy0
    go_enter Try.func22, Try.ntmps22
    go_wp2
    exact intq (H.out _ (Drawn.refl w)) e.out
  · have e : Hid (Words.placeOf xs ys = Words.plcFrom xs ys xs.length 0) := Lib.hid (by unfold Words.placeOf; rw [if_neg hy0])
    have hy0' : ((ys.length : Int) == 0) = false := beq_eq_false_iff_ne.2 (by omega)
    have hy1 : 0 < ys.length := by omega
    clear hy0
    go_enter Try.func22, Try.ntmps22
    go_wp2
    go_loopg [14] xs.length (fun g i wr => Drawn w wr ∧ ∃ j : Nat, i = .int .i64 j ∧ Hid (Words.plcFrom xs ys g j = Words.placeOf xs ys) ∧ j + g ≤ xs.length ∧ xs.length ≤ j + g)
    case atStart => exact ⟨Drawn.refl w, 0, rfl, Lib.hid e.out.symm, by omega, by omega⟩
    case round =>
      obtain ⟨hw, j, rfl, hg, hk1, hk2⟩ := hrel
      by_cases hj : j < xs.length
      · have i1 : (j : Int) < xs.length := by omega
        obtain ⟨wo, hwo⟩ : ∃ wo : World, wo = wr := ⟨_, rfl⟩
        subst hwo
        obtain ⟨gk', hgk⟩ : ∃ g : Nat, g = gk := ⟨_, rfl⟩
        subst hgk
        go_wp2
        go_loopg [6, 19] (ys.length) (fun g' s i wr => Drawn w wr ∧ ∃ m : Nat, s = .bool true ∧ i = .int .i64 m ∧ Hid (Words.matchTo xs ys j m = true) ∧ m + g' ≤ ys.length ∧ ys.length ≤ m + g')
        case atStart => exact ⟨hw, 0, rfl, rfl, Lib.hid rfl, by omega, by omega⟩
        case round =>
          obtain ⟨hw2, m, rfl, rfl, hm, hm1, hm2⟩ := hrel
          by_cases hmy : m < ys.length
          · have hq : (j + m) % xs.length < xs.length := Nat.mod_lt _ (by omega)
            have haw := ha.drawn hw2
            have hbw := hb.drawn hw2
            obtain ⟨ba, oa, x, rfl, hx, hcx⟩ := haw.cell hq
            obtain ⟨bb, ob, y, rfl, hy, hcy⟩ := hbw.cell hmy
            have i2 : (m : Int) < ys.length := by omega
            have i3 : ((j : Int) + m) % xs.length < xs.length := Int.emod_lt_of_pos _ (by omega)
            have i4 : 0 ≤ ((j : Int) + m) % xs.length := Int.emod_nonneg _ (by omega)
            have es : Hid (Words.matchTo xs ys j (m + 1) = (x == y)) := Lib.hid (by
              simp only [Words.matchTo]; rw [hm.out, hx.out, hy.out]; simp)
            by_cases hxy : x = y
            · subst hxy
              have hne : (x != x) = false := by simp
              go_wp2
              go_roundg (gk - 1)
              case measure => omega
              case rel => exact ⟨hw2, m + 1, rfl, by go_num, Lib.hid (by rw [es.out]; simp), by omega, by omega⟩
            · have hne : (x != y) = true := by simpa using hxy
              have ef : Hid (Words.plcFrom xs ys (gk' - 1) (j + 1) = Words.placeOf xs ys) := Lib.hid (by
                have h1 := hg.out
                rw [show gk' = (gk' - 1) + 1 from by omega] at h1
                simp only [Words.plcFrom] at h1
                have h2 : Words.matchTo xs ys j (m + 1) = false := by rw [es.out]; simpa using hxy
                rw [if_neg (by rw [Words.matchTo_false h2 _ (by omega)]; simp)] at h1
                exact h1)
              clear hxy es
              go_wp2
              go_roundg (gk' - 1)
              case measure => omega
              case rel => exact ⟨hw2, j + 1, by go_num, ef, by omega, by omega⟩
          · have ef : Hid ((j : Int) = Words.placeOf xs ys) := Lib.hid (by
              have h1 := hg.out
              rw [show gk' = (gk' - 1) + 1 from by omega] at h1
              simp only [Words.plcFrom] at h1
              rw [show ys.length = m from by omega, if_pos hm.out] at h1
              exact h1)
            go_wp2
            exact intq (H.out _ hw2) ef.out.symm
      · have ef : Hid (-1 = Words.placeOf xs ys) := Lib.hid (by
          have h1 := hg.out
          rw [show gk = 0 from by omega] at h1
          exact h1)
        go_wp2
        exact intq (H.out _ hw) ef.out.symm
set_option maxHeartbeats 1600000 in
theorem FnExactPlaceOf_l {xs : List Int} {ys : List Int} {v_xs : Value} {v_ys : Value} {w : World} {Q : Ending → World → Prop} (h_xs : IntsAt w v_xs xs) (h_ys : IntsAt w v_ys ys) (hQ : ∀ w', Below w.heap.size w w' → Q (.returned (.bool true)) w') :
    Calls Try.prog 7 #[v_xs, v_ys] w Q := by
  have H := Lib.hid hQ; clear hQ
  have h0_xs := h_xs
  obtain ⟨ao_xs, ca_xs, rfl, la_xs, lc_xs, cc_xs⟩ := h0_xs.form
  clear h0_xs
  have h0_ys := h_ys
  obtain ⟨ao_ys, ca_ys, rfl, la_ys, lc_ys, cc_ys⟩ := h0_ys.form
  clear h0_ys
  rcases Int.lt_or_le 1048576 (xs.length : Int) with b_xs | b_xs
  · go_enter Try.func7, Try.ntmps7
    go_wp2
    exact H.out _ (Below.refl _ _)
  rcases Int.lt_or_le 1048576 (ys.length : Int) with b_ys | b_ys
  · go_enter Try.func7, Try.ntmps7
    go_wp2
    exact H.out _ (Below.refl _ _)
  go_enter Try.func7, Try.ntmps7
  have bel := Below.refl w.heap.size w
  go_wp2_with fail
  refine toIntS_c (h_xs.below bel) (by omega) ?_; intro vt_xs w1 ot_xs b1
  have sz_ot_xs := bel.size
  replace bel := bel.trans (b1.mono bel.size)
  go_wp2_with fail
  refine toIntS_c (h_ys.below bel) (by omega) ?_; intro vt_ys w2 ot_ys b2
  have sz_ot_ys := bel.size
  have ne_ot_xs_ot_ys := own_ne ot_xs ot_ys (Nat.le_refl _)
  have ne_ot_ys_ot_xs := own_ne' ot_xs ot_ys (Nat.le_refl _)
  replace bel := bel.trans (b2.mono bel.size)
  replace ot_xs := Own.below ot_xs b2
  go_wp2_with fail
  refine PlaceOf_s (OwnInts.at ot_xs) (OwnInts.at ot_ys) (by omega) (by omega) ?_; intro w3 d3
  replace bel := bel.trans (d3.below _)
  replace ot_xs := Own.drawn ot_xs d3
  replace ot_ys := Own.drawn ot_ys d3
  go_wp2_with fail
  refine toIntS_c (h_xs.below bel) (by omega) ?_; intro vx_xs w4 ox_xs b4
  have sz_ox_xs := bel.size
  replace bel := bel.trans (b4.mono bel.size)
  go_wp2_with fail
  refine toIntS_c (h_ys.below bel) (by omega) ?_; intro vx_ys w5 ox_ys b5
  have sz_ox_ys := bel.size
  have ne_ox_xs_ox_ys := own_ne ox_xs ox_ys (Nat.le_refl _)
  have ne_ox_ys_ox_xs := own_ne' ox_xs ox_ys (Nat.le_refl _)
  replace bel := bel.trans (b5.mono bel.size)
  replace ox_xs := Own.below ox_xs b5
  go_wp2_with fail
  refine PlaceOf_i (OwnInts.at ox_xs) (OwnInts.at ox_ys) (by omega) (by omega) ?_; intro w6 d6
  replace bel := bel.trans (d6.below _)
  replace ox_xs := Own.drawn ox_xs d6
  replace ox_ys := Own.drawn ox_ys d6
  go_wp2_with fail
  refine toIntS_c (h_xs.below bel) (by omega) ?_; intro vu_xs w7 ou_xs b7
  have sz_ou_xs := bel.size
  have ne_ox_xs_ou_xs := own_ne ox_xs ou_xs (Nat.le_refl _)
  have ne_ou_xs_ox_xs := own_ne' ox_xs ou_xs (Nat.le_refl _)
  have ne_ox_ys_ou_xs := own_ne ox_ys ou_xs (Nat.le_refl _)
  have ne_ou_xs_ox_ys := own_ne' ox_ys ou_xs (Nat.le_refl _)
  replace bel := bel.trans (b7.mono bel.size)
  replace ox_xs := Own.below ox_xs b7
  replace ox_ys := Own.below ox_ys b7
  go_wp2_with fail
  refine eqIntS_c (OwnInts.at ox_xs) (OwnInts.at ou_xs) ?_; intro w8 d8
  replace bel := bel.trans (d8.below _)
  replace ox_xs := Own.drawn ox_xs d8
  replace ox_ys := Own.drawn ox_ys d8
  go_wp2_with fail
  refine toIntS_c (h_ys.below bel) (by omega) ?_; intro vu_ys w9 ou_ys b9
  have sz_ou_ys := bel.size
  have ne_ox_xs_ou_ys := own_ne ox_xs ou_ys (Nat.le_refl _)
  have ne_ou_ys_ox_xs := own_ne' ox_xs ou_ys (Nat.le_refl _)
  have ne_ox_ys_ou_ys := own_ne ox_ys ou_ys (Nat.le_refl _)
  have ne_ou_ys_ox_ys := own_ne' ox_ys ou_ys (Nat.le_refl _)
  replace bel := bel.trans (b9.mono bel.size)
  replace ox_xs := Own.below ox_xs b9
  replace ox_ys := Own.below ox_ys b9
  go_wp2_with fail
  refine eqIntS_c (OwnInts.at ox_ys) (OwnInts.at ou_ys) ?_; intro w10 d10
  replace bel := bel.trans (d10.below _)
  replace ox_xs := Own.drawn ox_xs d10
  replace ox_ys := Own.drawn ox_ys d10
  go_wp2
  exact H.out _ bel
end Go.Proofs.Ytieihnclolaflaa
