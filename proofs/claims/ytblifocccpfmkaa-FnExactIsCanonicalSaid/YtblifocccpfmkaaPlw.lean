/-
  Laws on the least images of colorings.
-/
import Derived.Test.YtblifocccpfmkaaPat
import Derived.Test.YtblifocccpfmkaaLawS
set_option linter.unusedVariables false
namespace Go.Proofs.Ytblifocccpfmkaa
open Go.RowKit

set_option maxHeartbeats 3200000 in
theorem FnExactCanonOf_l {g : List (List Int)} {l : List Int} {v_g : Value} {v_l : Value} {w : World} {Q : Ending → World → Prop} (h_g : RowsAt w v_g g) (h_l : IntsAt w v_l l) (hQ : ∀ w', Below w.heap.size w w' → Q (.returned (.bool true)) w') :
    Calls Try.prog 5 #[v_g, v_l] w Q := by
  have H := Lib.hid hQ; clear hQ
  have h0_g := h_g
  obtain ⟨ao_g, ca_g, rfl, la_g, lc_g, cc_g⟩ := h0_g.form
  clear h0_g
  have h0_l := h_l
  obtain ⟨ao_l, ca_l, rfl, la_l, lc_l, cc_l⟩ := h0_l.form
  clear h0_l
  rcases Int.lt_or_le 1048576 (l.length : Int) with b_l | b_l
  · go_enter Try.func5, Try.ntmps5
    go_wp2
    exact H.out _ (Below.refl _ _)
  rcases Int.lt_or_le 1048576 ((g.length : Int) + sumLen g) with b_g | b_g
  · have e_g : Hid ((if (g.length : Int) + sumLen g ≤ 1048576 then 1048576 - (g.length : Int) - sumLen g else -1) = -1) := Lib.hid (if_neg (by omega))
    go_enter Try.func5, Try.ntmps5
    go_wp2_with fail
    refine szIntSS_c h_g ?_
    rw [e_g.out]
    go_wp2_with fail
    exact H.out _ (Below.refl _ _)
  have e_g : Hid ((if (g.length : Int) + sumLen g ≤ 1048576 then 1048576 - (g.length : Int) - sumLen g else -1) = 1048576 - (g.length : Int) - sumLen g) := Lib.hid (if_pos b_g)
  have e2_g : 0 ≤ 1048576 - (g.length : Int) - sumLen g := by omega
  go_enter Try.func5, Try.ntmps5
  go_wp2_with fail
  refine szIntSS_c h_g ?_
  rw [e_g.out]
  have bel := Below.refl w.heap.size w
  go_wp2_with fail
  refine toIntSS_c (h_g.below bel) (by omega) ?_; intro vt_g w1 ot_g b1
  have sz_ot_g := bel.size
  replace bel := bel.trans (b1.mono bel.size)
  have le_ot_g := Nat.le_refl w1.heap.size
  go_wp2_with fail
  refine toIntS_c (h_l.below bel) (by omega) ?_; intro vt_l w2 ot_l b2
  have sz_ot_l := bel.size
  have or_ot_g_ot_l := le_ot_g
  replace bel := bel.trans (b2.mono bel.size)
  replace le_ot_g := Nat.le_trans le_ot_g b2.size
  replace ot_g := ot_g.below b2
  have le_ot_l := Nat.le_refl w2.heap.size
  have in_ot_l := Own.inBlk ot_l
  go_wp2_with fail
  refine CanonOf_s ot_g.at ot_l.at ?_; intro vs0 w3 os0 b3
  have sz_os0 := bel.size
  have or_ot_g_os0 := le_ot_g
  have or_ot_l_os0 := le_ot_l
  replace bel := bel.trans (b3.mono bel.size)
  replace le_ot_g := Nat.le_trans le_ot_g b3.size
  replace ot_g := ot_g.below b3
  replace le_ot_l := Nat.le_trans le_ot_l b3.size
  replace ot_l := ot_l.below b3
  have le_os0 := Nat.le_refl w3.heap.size
  have in_os0 := Own.inBlk os0
  clear le_ot_g sz_ot_g ot_g
  clear le_ot_l sz_ot_l ot_l in_ot_l
  go_wp2_with fail
  refine toIntSS_c (h_g.below bel) (by omega) ?_; intro vx_g w4 ox_g b4
  have sz_ox_g := bel.size
  have or_os0_ox_g := le_os0
  replace bel := bel.trans (b4.mono bel.size)
  replace le_os0 := Nat.le_trans le_os0 b4.size
  replace os0 := os0.below b4
  have le_ox_g := Nat.le_refl w4.heap.size
  go_wp2_with fail
  refine toIntS_c (h_l.below bel) (by omega) ?_; intro vx_l w5 ox_l b5
  have sz_ox_l := bel.size
  have or_os0_ox_l := le_os0
  have or_ox_g_ox_l := le_ox_g
  replace bel := bel.trans (b5.mono bel.size)
  replace le_os0 := Nat.le_trans le_os0 b5.size
  replace os0 := os0.below b5
  replace le_ox_g := Nat.le_trans le_ox_g b5.size
  replace ox_g := ox_g.below b5
  have le_ox_l := Nat.le_refl w5.heap.size
  have in_ox_l := Own.inBlk ox_l
  go_wp2_with fail
  refine CanonOf_i ox_g.at ox_l.at ?_; intro vg0 w6 og0 b6
  have sz_og0 := bel.size
  have or_os0_og0 := le_os0
  have or_ox_g_og0 := le_ox_g
  have or_ox_l_og0 := le_ox_l
  replace bel := bel.trans (b6.mono bel.size)
  replace le_os0 := Nat.le_trans le_os0 b6.size
  replace os0 := os0.below b6
  replace le_ox_g := Nat.le_trans le_ox_g b6.size
  replace ox_g := ox_g.below b6
  replace le_ox_l := Nat.le_trans le_ox_l b6.size
  replace ox_l := ox_l.below b6
  have le_og0 := Nat.le_refl w6.heap.size
  have in_og0 := Own.inBlk og0
  go_wp2_with fail
  refine eqIntS_c og0.at os0.at ?_; intro w7 d7
  replace bel := bel.trans (d7.below _)
  replace le_os0 := Nat.le_trans le_os0 (d7.below 0).size
  replace os0 := os0.drawn d7
  replace le_ox_g := Nat.le_trans le_ox_g (d7.below 0).size
  replace ox_g := ox_g.drawn d7
  replace le_ox_l := Nat.le_trans le_ox_l (d7.below 0).size
  replace ox_l := ox_l.drawn d7
  replace le_og0 := Nat.le_trans le_og0 (d7.below 0).size
  replace og0 := og0.drawn d7
  go_wp2_with fail
  refine toIntSS_c (h_g.below bel) (by omega) ?_; intro vu_g w8 ou_g b8
  have sz_ou_g := bel.size
  have or_os0_ou_g := le_os0
  have or_ox_g_ou_g := le_ox_g
  have or_ox_l_ou_g := le_ox_l
  have or_og0_ou_g := le_og0
  replace bel := bel.trans (b8.mono bel.size)
  replace le_os0 := Nat.le_trans le_os0 b8.size
  replace os0 := os0.below b8
  replace le_ox_g := Nat.le_trans le_ox_g b8.size
  replace ox_g := ox_g.below b8
  replace le_ox_l := Nat.le_trans le_ox_l b8.size
  replace ox_l := ox_l.below b8
  replace le_og0 := Nat.le_trans le_og0 b8.size
  replace og0 := og0.below b8
  have le_ou_g := Nat.le_refl w8.heap.size
  go_wp2_with fail
  refine eqIntSS_c ox_g.at ou_g.at ?_; intro w9 d9
  replace bel := bel.trans (d9.below _)
  replace le_os0 := Nat.le_trans le_os0 (d9.below 0).size
  replace os0 := os0.drawn d9
  replace le_ox_g := Nat.le_trans le_ox_g (d9.below 0).size
  replace ox_g := ox_g.drawn d9
  replace le_ox_l := Nat.le_trans le_ox_l (d9.below 0).size
  replace ox_l := ox_l.drawn d9
  replace le_og0 := Nat.le_trans le_og0 (d9.below 0).size
  replace og0 := og0.drawn d9
  replace le_ou_g := Nat.le_trans le_ou_g (d9.below 0).size
  replace ou_g := ou_g.drawn d9
  clear le_ou_g sz_ou_g ou_g
  go_wp2_with fail
  refine toIntS_c (h_l.below bel) (by omega) ?_; intro vu_l w10 ou_l b10
  have sz_ou_l := bel.size
  have or_os0_ou_l := le_os0
  have or_ox_g_ou_l := le_ox_g
  have or_ox_l_ou_l := le_ox_l
  have or_og0_ou_l := le_og0
  replace bel := bel.trans (b10.mono bel.size)
  replace le_os0 := Nat.le_trans le_os0 b10.size
  replace os0 := os0.below b10
  replace le_ox_g := Nat.le_trans le_ox_g b10.size
  replace ox_g := ox_g.below b10
  replace le_ox_l := Nat.le_trans le_ox_l b10.size
  replace ox_l := ox_l.below b10
  replace le_og0 := Nat.le_trans le_og0 b10.size
  replace og0 := og0.below b10
  have le_ou_l := Nat.le_refl w10.heap.size
  have in_ou_l := Own.inBlk ou_l
  go_wp2_with fail
  refine eqIntS_c ox_l.at ou_l.at ?_; intro w11 d11
  replace bel := bel.trans (d11.below _)
  replace le_os0 := Nat.le_trans le_os0 (d11.below 0).size
  replace os0 := os0.drawn d11
  replace le_ox_g := Nat.le_trans le_ox_g (d11.below 0).size
  replace ox_g := ox_g.drawn d11
  replace le_ox_l := Nat.le_trans le_ox_l (d11.below 0).size
  replace ox_l := ox_l.drawn d11
  replace le_og0 := Nat.le_trans le_og0 (d11.below 0).size
  replace og0 := og0.drawn d11
  replace le_ou_l := Nat.le_trans le_ou_l (d11.below 0).size
  replace ou_l := ou_l.drawn d11
  clear le_ou_l sz_ou_l ou_l in_ou_l
  have rb := Perms.canonW_len g l
  go_wp2_with fail
  refine markIntSS_c ox_g (by omega) (by omega) (by omega) ?_; intro w12 m12 g12
  replace bel := bel.trans (g12.below sz_ox_g bel.size)
  replace le_os0 := Nat.le_trans le_os0 g12.size
  replace os0 := os0.touch in_os0 g12 (.inl or_os0_ox_g)
  replace le_ox_g := Nat.le_trans le_ox_g g12.size
  replace ox_g := m12
  replace le_ox_l := Nat.le_trans le_ox_l g12.size
  replace ox_l := ox_l.touch in_ox_l g12 (.inr or_ox_g_ox_l)
  replace le_og0 := Nat.le_trans le_og0 g12.size
  replace og0 := og0.touch in_og0 g12 (.inr or_ox_g_og0)
  go_wp2_with fail
  refine markIntS_c ox_l (by omega) (by omega) (by omega) ?_; intro w13 m13 g13
  replace g13 := Touch.of_grown g13 fun k hk => ⟨(ox_l.lt hk).1, in_ox_l k hk⟩
  replace bel := bel.trans (g13.below sz_ox_l bel.size)
  replace le_os0 := Nat.le_trans le_os0 g13.size
  replace os0 := os0.touch in_os0 g13 (.inl or_os0_ox_l)
  replace le_ox_g := Nat.le_trans le_ox_g g13.size
  replace ox_g := ox_g.touch g13 (.inl or_ox_g_ox_l)
  replace le_ox_l := Nat.le_trans le_ox_l g13.size
  replace ox_l := m13
  replace le_og0 := Nat.le_trans le_og0 g13.size
  replace og0 := og0.touch in_og0 g13 (.inr or_ox_l_og0)
  go_wp2_with fail
  refine eqIntS_c og0.at os0.at ?_; intro w14 d14
  replace bel := bel.trans (d14.below _)
  replace le_os0 := Nat.le_trans le_os0 (d14.below 0).size
  replace os0 := os0.drawn d14
  replace le_ox_g := Nat.le_trans le_ox_g (d14.below 0).size
  replace ox_g := ox_g.drawn d14
  replace le_ox_l := Nat.le_trans le_ox_l (d14.below 0).size
  replace ox_l := ox_l.drawn d14
  replace le_og0 := Nat.le_trans le_og0 (d14.below 0).size
  replace og0 := og0.drawn d14
  go_wp2_with fail
  refine markIntS_c og0 (by omega) (by omega) (by omega) ?_; intro w15 m15 g15
  replace g15 := Touch.of_grown g15 fun k hk => ⟨(og0.lt hk).1, in_og0 k hk⟩
  replace bel := bel.trans (g15.below sz_og0 bel.size)
  replace le_os0 := Nat.le_trans le_os0 g15.size
  replace os0 := os0.touch in_os0 g15 (.inl or_os0_og0)
  replace le_ox_g := Nat.le_trans le_ox_g g15.size
  replace ox_g := ox_g.touch g15 (.inl or_ox_g_og0)
  replace le_ox_l := Nat.le_trans le_ox_l g15.size
  replace ox_l := ox_l.touch in_ox_l g15 (.inl or_ox_l_og0)
  replace le_og0 := Nat.le_trans le_og0 g15.size
  replace og0 := m15
  go_wp2_with fail
  refine heldIntS_c og0.at (by omega) (by omega) (by omega) ?_
  clear le_ox_g sz_ox_g ox_g
  clear le_ox_l sz_ox_l ox_l in_ox_l
  go_wp2_with fail
  refine toIntSS_c (h_g.below bel) (by omega) ?_; intro vy_g w16 oy_g b16
  have sz_oy_g := bel.size
  have or_os0_oy_g := le_os0
  have or_og0_oy_g := le_og0
  replace bel := bel.trans (b16.mono bel.size)
  replace le_os0 := Nat.le_trans le_os0 b16.size
  replace os0 := os0.below b16
  replace le_og0 := Nat.le_trans le_og0 b16.size
  replace og0 := og0.below b16
  have le_oy_g := Nat.le_refl w16.heap.size
  go_wp2_with fail
  refine toIntS_c (h_l.below bel) (by omega) ?_; intro vy_l w17 oy_l b17
  have sz_oy_l := bel.size
  have or_os0_oy_l := le_os0
  have or_og0_oy_l := le_og0
  have or_oy_g_oy_l := le_oy_g
  replace bel := bel.trans (b17.mono bel.size)
  replace le_os0 := Nat.le_trans le_os0 b17.size
  replace os0 := os0.below b17
  replace le_og0 := Nat.le_trans le_og0 b17.size
  replace og0 := og0.below b17
  replace le_oy_g := Nat.le_trans le_oy_g b17.size
  replace oy_g := oy_g.below b17
  have le_oy_l := Nat.le_refl w17.heap.size
  have in_oy_l := Own.inBlk oy_l
  go_wp2_with fail
  refine CanonOf_i oy_g.at oy_l.at ?_; intro vh0 w18 oh0 b18
  have sz_oh0 := bel.size
  have or_os0_oh0 := le_os0
  have or_og0_oh0 := le_og0
  have or_oy_g_oh0 := le_oy_g
  have or_oy_l_oh0 := le_oy_l
  replace bel := bel.trans (b18.mono bel.size)
  replace le_os0 := Nat.le_trans le_os0 b18.size
  replace os0 := os0.below b18
  replace le_og0 := Nat.le_trans le_og0 b18.size
  replace og0 := og0.below b18
  replace le_oy_g := Nat.le_trans le_oy_g b18.size
  replace oy_g := oy_g.below b18
  replace le_oy_l := Nat.le_trans le_oy_l b18.size
  replace oy_l := oy_l.below b18
  have le_oh0 := Nat.le_refl w18.heap.size
  have in_oh0 := Own.inBlk oh0
  clear le_oy_g sz_oy_g oy_g
  clear le_oy_l sz_oy_l oy_l in_oy_l
  go_wp2_with fail
  refine eqIntS_c oh0.at os0.at ?_; intro w19 d19
  replace bel := bel.trans (d19.below _)
  replace le_os0 := Nat.le_trans le_os0 (d19.below 0).size
  replace os0 := os0.drawn d19
  replace le_og0 := Nat.le_trans le_og0 (d19.below 0).size
  replace og0 := og0.drawn d19
  replace le_oh0 := Nat.le_trans le_oh0 (d19.below 0).size
  replace oh0 := oh0.drawn d19
  go_wp2_with fail
  refine heldIntS_c og0.at (by omega) (by omega) (by omega) ?_
  go_wp2
  exact H.out _ bel
set_option maxHeartbeats 3200000 in
theorem FnExactIsCanonical_l {g : List (List Int)} {l : List Int} {v_g : Value} {v_l : Value} {w : World} {Q : Ending → World → Prop} (h_g : RowsAt w v_g g) (h_l : IntsAt w v_l l) (hQ : ∀ w', Below w.heap.size w w' → Q (.returned (.bool true)) w') :
    Calls Try.prog 3 #[v_g, v_l] w Q := by
  have H := Lib.hid hQ; clear hQ
  have h0_g := h_g
  obtain ⟨ao_g, ca_g, rfl, la_g, lc_g, cc_g⟩ := h0_g.form
  clear h0_g
  have h0_l := h_l
  obtain ⟨ao_l, ca_l, rfl, la_l, lc_l, cc_l⟩ := h0_l.form
  clear h0_l
  rcases Int.lt_or_le 1048576 (l.length : Int) with b_l | b_l
  · go_enter Try.func3, Try.ntmps3
    go_wp2
    exact H.out _ (Below.refl _ _)
  rcases Int.lt_or_le 1048576 ((g.length : Int) + sumLen g) with b_g | b_g
  · have e_g : Hid ((if (g.length : Int) + sumLen g ≤ 1048576 then 1048576 - (g.length : Int) - sumLen g else -1) = -1) := Lib.hid (if_neg (by omega))
    go_enter Try.func3, Try.ntmps3
    go_wp2_with fail
    refine szIntSS_c h_g ?_
    rw [e_g.out]
    go_wp2_with fail
    exact H.out _ (Below.refl _ _)
  have e_g : Hid ((if (g.length : Int) + sumLen g ≤ 1048576 then 1048576 - (g.length : Int) - sumLen g else -1) = 1048576 - (g.length : Int) - sumLen g) := Lib.hid (if_pos b_g)
  have e2_g : 0 ≤ 1048576 - (g.length : Int) - sumLen g := by omega
  go_enter Try.func3, Try.ntmps3
  go_wp2_with fail
  refine szIntSS_c h_g ?_
  rw [e_g.out]
  have bel := Below.refl w.heap.size w
  go_wp2_with fail
  refine toIntSS_c (h_g.below bel) (by omega) ?_; intro vt_g w1 ot_g b1
  have sz_ot_g := bel.size
  replace bel := bel.trans (b1.mono bel.size)
  have le_ot_g := Nat.le_refl w1.heap.size
  go_wp2_with fail
  refine toIntS_c (h_l.below bel) (by omega) ?_; intro vt_l w2 ot_l b2
  have sz_ot_l := bel.size
  have or_ot_g_ot_l := le_ot_g
  replace bel := bel.trans (b2.mono bel.size)
  replace le_ot_g := Nat.le_trans le_ot_g b2.size
  replace ot_g := ot_g.below b2
  have le_ot_l := Nat.le_refl w2.heap.size
  have in_ot_l := Own.inBlk ot_l
  go_wp2_with fail
  refine IsCanonical_s ot_g.at ot_l.at ?_; intro w3 b3
  replace bel := bel.trans (b3.mono bel.size)
  replace le_ot_g := Nat.le_trans le_ot_g b3.size
  replace ot_g := ot_g.below b3
  replace le_ot_l := Nat.le_trans le_ot_l b3.size
  replace ot_l := ot_l.below b3
  clear le_ot_g sz_ot_g ot_g
  clear le_ot_l sz_ot_l ot_l in_ot_l
  go_wp2_with fail
  refine toIntSS_c (h_g.below bel) (by omega) ?_; intro vx_g w4 ox_g b4
  have sz_ox_g := bel.size
  replace bel := bel.trans (b4.mono bel.size)
  have le_ox_g := Nat.le_refl w4.heap.size
  go_wp2_with fail
  refine toIntS_c (h_l.below bel) (by omega) ?_; intro vx_l w5 ox_l b5
  have sz_ox_l := bel.size
  have or_ox_g_ox_l := le_ox_g
  replace bel := bel.trans (b5.mono bel.size)
  replace le_ox_g := Nat.le_trans le_ox_g b5.size
  replace ox_g := ox_g.below b5
  have le_ox_l := Nat.le_refl w5.heap.size
  have in_ox_l := Own.inBlk ox_l
  go_wp2_with fail
  refine IsCanonical_i ox_g.at ox_l.at ?_; intro w6 b6
  replace bel := bel.trans (b6.mono bel.size)
  replace le_ox_g := Nat.le_trans le_ox_g b6.size
  replace ox_g := ox_g.below b6
  replace le_ox_l := Nat.le_trans le_ox_l b6.size
  replace ox_l := ox_l.below b6
  go_wp2_with fail
  refine toIntSS_c (h_g.below bel) (by omega) ?_; intro vu_g w7 ou_g b7
  have sz_ou_g := bel.size
  have or_ox_g_ou_g := le_ox_g
  have or_ox_l_ou_g := le_ox_l
  replace bel := bel.trans (b7.mono bel.size)
  replace le_ox_g := Nat.le_trans le_ox_g b7.size
  replace ox_g := ox_g.below b7
  replace le_ox_l := Nat.le_trans le_ox_l b7.size
  replace ox_l := ox_l.below b7
  have le_ou_g := Nat.le_refl w7.heap.size
  go_wp2_with fail
  refine eqIntSS_c ox_g.at ou_g.at ?_; intro w8 d8
  replace bel := bel.trans (d8.below _)
  replace le_ox_g := Nat.le_trans le_ox_g (d8.below 0).size
  replace ox_g := ox_g.drawn d8
  replace le_ox_l := Nat.le_trans le_ox_l (d8.below 0).size
  replace ox_l := ox_l.drawn d8
  replace le_ou_g := Nat.le_trans le_ou_g (d8.below 0).size
  replace ou_g := ou_g.drawn d8
  clear le_ou_g sz_ou_g ou_g
  go_wp2_with fail
  refine toIntS_c (h_l.below bel) (by omega) ?_; intro vu_l w9 ou_l b9
  have sz_ou_l := bel.size
  have or_ox_g_ou_l := le_ox_g
  have or_ox_l_ou_l := le_ox_l
  replace bel := bel.trans (b9.mono bel.size)
  replace le_ox_g := Nat.le_trans le_ox_g b9.size
  replace ox_g := ox_g.below b9
  replace le_ox_l := Nat.le_trans le_ox_l b9.size
  replace ox_l := ox_l.below b9
  have le_ou_l := Nat.le_refl w9.heap.size
  have in_ou_l := Own.inBlk ou_l
  go_wp2_with fail
  refine eqIntS_c ox_l.at ou_l.at ?_; intro w10 d10
  replace bel := bel.trans (d10.below _)
  replace le_ox_g := Nat.le_trans le_ox_g (d10.below 0).size
  replace ox_g := ox_g.drawn d10
  replace le_ox_l := Nat.le_trans le_ox_l (d10.below 0).size
  replace ox_l := ox_l.drawn d10
  replace le_ou_l := Nat.le_trans le_ou_l (d10.below 0).size
  replace ou_l := ou_l.drawn d10
  clear le_ou_l sz_ou_l ou_l in_ou_l
  go_wp2
  exact H.out _ bel
set_option maxHeartbeats 3200000 in
theorem FnExactSamePattern_l {g : List (List Int)} {a : List Int} {b : List Int} {v_g : Value} {v_a : Value} {v_b : Value} {w : World} {Q : Ending → World → Prop} (h_g : RowsAt w v_g g) (h_a : IntsAt w v_a a) (h_b : IntsAt w v_b b) (hQ : ∀ w', Below w.heap.size w w' → Q (.returned (.bool true)) w') :
    Calls Try.prog 4 #[v_g, v_a, v_b] w Q := by
  have H := Lib.hid hQ; clear hQ
  have h0_g := h_g
  obtain ⟨ao_g, ca_g, rfl, la_g, lc_g, cc_g⟩ := h0_g.form
  clear h0_g
  have h0_a := h_a
  obtain ⟨ao_a, ca_a, rfl, la_a, lc_a, cc_a⟩ := h0_a.form
  clear h0_a
  have h0_b := h_b
  obtain ⟨ao_b, ca_b, rfl, la_b, lc_b, cc_b⟩ := h0_b.form
  clear h0_b
  rcases Int.lt_or_le 1048576 (a.length : Int) with b_a | b_a
  · go_enter Try.func4, Try.ntmps4
    go_wp2
    exact H.out _ (Below.refl _ _)
  rcases Int.lt_or_le 1048576 (b.length : Int) with b_b | b_b
  · go_enter Try.func4, Try.ntmps4
    go_wp2
    exact H.out _ (Below.refl _ _)
  rcases Int.lt_or_le 1048576 ((g.length : Int) + sumLen g) with b_g | b_g
  · have e_g : Hid ((if (g.length : Int) + sumLen g ≤ 1048576 then 1048576 - (g.length : Int) - sumLen g else -1) = -1) := Lib.hid (if_neg (by omega))
    go_enter Try.func4, Try.ntmps4
    go_wp2_with fail
    refine szIntSS_c h_g ?_
    rw [e_g.out]
    go_wp2_with fail
    exact H.out _ (Below.refl _ _)
  have e_g : Hid ((if (g.length : Int) + sumLen g ≤ 1048576 then 1048576 - (g.length : Int) - sumLen g else -1) = 1048576 - (g.length : Int) - sumLen g) := Lib.hid (if_pos b_g)
  have e2_g : 0 ≤ 1048576 - (g.length : Int) - sumLen g := by omega
  go_enter Try.func4, Try.ntmps4
  go_wp2_with fail
  refine szIntSS_c h_g ?_
  rw [e_g.out]
  have bel := Below.refl w.heap.size w
  go_wp2_with fail
  refine toIntSS_c (h_g.below bel) (by omega) ?_; intro vt_g w1 ot_g b1
  have sz_ot_g := bel.size
  replace bel := bel.trans (b1.mono bel.size)
  have le_ot_g := Nat.le_refl w1.heap.size
  go_wp2_with fail
  refine toIntS_c (h_a.below bel) (by omega) ?_; intro vt_a w2 ot_a b2
  have sz_ot_a := bel.size
  have or_ot_g_ot_a := le_ot_g
  replace bel := bel.trans (b2.mono bel.size)
  replace le_ot_g := Nat.le_trans le_ot_g b2.size
  replace ot_g := ot_g.below b2
  have le_ot_a := Nat.le_refl w2.heap.size
  have in_ot_a := Own.inBlk ot_a
  go_wp2_with fail
  refine toIntS_c (h_b.below bel) (by omega) ?_; intro vt_b w3 ot_b b3
  have sz_ot_b := bel.size
  have or_ot_g_ot_b := le_ot_g
  have or_ot_a_ot_b := le_ot_a
  replace bel := bel.trans (b3.mono bel.size)
  replace le_ot_g := Nat.le_trans le_ot_g b3.size
  replace ot_g := ot_g.below b3
  replace le_ot_a := Nat.le_trans le_ot_a b3.size
  replace ot_a := ot_a.below b3
  have le_ot_b := Nat.le_refl w3.heap.size
  have in_ot_b := Own.inBlk ot_b
  go_wp2_with fail
  refine SamePattern_s ot_g.at ot_a.at ot_b.at ?_; intro w4 b4
  replace bel := bel.trans (b4.mono bel.size)
  replace le_ot_g := Nat.le_trans le_ot_g b4.size
  replace ot_g := ot_g.below b4
  replace le_ot_a := Nat.le_trans le_ot_a b4.size
  replace ot_a := ot_a.below b4
  replace le_ot_b := Nat.le_trans le_ot_b b4.size
  replace ot_b := ot_b.below b4
  clear le_ot_g sz_ot_g ot_g
  clear le_ot_a sz_ot_a ot_a in_ot_a
  clear le_ot_b sz_ot_b ot_b in_ot_b
  go_wp2_with fail
  refine toIntSS_c (h_g.below bel) (by omega) ?_; intro vx_g w5 ox_g b5
  have sz_ox_g := bel.size
  replace bel := bel.trans (b5.mono bel.size)
  have le_ox_g := Nat.le_refl w5.heap.size
  go_wp2_with fail
  refine toIntS_c (h_a.below bel) (by omega) ?_; intro vx_a w6 ox_a b6
  have sz_ox_a := bel.size
  have or_ox_g_ox_a := le_ox_g
  replace bel := bel.trans (b6.mono bel.size)
  replace le_ox_g := Nat.le_trans le_ox_g b6.size
  replace ox_g := ox_g.below b6
  have le_ox_a := Nat.le_refl w6.heap.size
  have in_ox_a := Own.inBlk ox_a
  go_wp2_with fail
  refine toIntS_c (h_b.below bel) (by omega) ?_; intro vx_b w7 ox_b b7
  have sz_ox_b := bel.size
  have or_ox_g_ox_b := le_ox_g
  have or_ox_a_ox_b := le_ox_a
  replace bel := bel.trans (b7.mono bel.size)
  replace le_ox_g := Nat.le_trans le_ox_g b7.size
  replace ox_g := ox_g.below b7
  replace le_ox_a := Nat.le_trans le_ox_a b7.size
  replace ox_a := ox_a.below b7
  have le_ox_b := Nat.le_refl w7.heap.size
  have in_ox_b := Own.inBlk ox_b
  go_wp2_with fail
  refine SamePattern_i ox_g.at ox_a.at ox_b.at ?_; intro w8 b8
  replace bel := bel.trans (b8.mono bel.size)
  replace le_ox_g := Nat.le_trans le_ox_g b8.size
  replace ox_g := ox_g.below b8
  replace le_ox_a := Nat.le_trans le_ox_a b8.size
  replace ox_a := ox_a.below b8
  replace le_ox_b := Nat.le_trans le_ox_b b8.size
  replace ox_b := ox_b.below b8
  go_wp2_with fail
  refine toIntSS_c (h_g.below bel) (by omega) ?_; intro vu_g w9 ou_g b9
  have sz_ou_g := bel.size
  have or_ox_g_ou_g := le_ox_g
  have or_ox_a_ou_g := le_ox_a
  have or_ox_b_ou_g := le_ox_b
  replace bel := bel.trans (b9.mono bel.size)
  replace le_ox_g := Nat.le_trans le_ox_g b9.size
  replace ox_g := ox_g.below b9
  replace le_ox_a := Nat.le_trans le_ox_a b9.size
  replace ox_a := ox_a.below b9
  replace le_ox_b := Nat.le_trans le_ox_b b9.size
  replace ox_b := ox_b.below b9
  have le_ou_g := Nat.le_refl w9.heap.size
  go_wp2_with fail
  refine eqIntSS_c ox_g.at ou_g.at ?_; intro w10 d10
  replace bel := bel.trans (d10.below _)
  replace le_ox_g := Nat.le_trans le_ox_g (d10.below 0).size
  replace ox_g := ox_g.drawn d10
  replace le_ox_a := Nat.le_trans le_ox_a (d10.below 0).size
  replace ox_a := ox_a.drawn d10
  replace le_ox_b := Nat.le_trans le_ox_b (d10.below 0).size
  replace ox_b := ox_b.drawn d10
  replace le_ou_g := Nat.le_trans le_ou_g (d10.below 0).size
  replace ou_g := ou_g.drawn d10
  clear le_ou_g sz_ou_g ou_g
  go_wp2_with fail
  refine toIntS_c (h_a.below bel) (by omega) ?_; intro vu_a w11 ou_a b11
  have sz_ou_a := bel.size
  have or_ox_g_ou_a := le_ox_g
  have or_ox_a_ou_a := le_ox_a
  have or_ox_b_ou_a := le_ox_b
  replace bel := bel.trans (b11.mono bel.size)
  replace le_ox_g := Nat.le_trans le_ox_g b11.size
  replace ox_g := ox_g.below b11
  replace le_ox_a := Nat.le_trans le_ox_a b11.size
  replace ox_a := ox_a.below b11
  replace le_ox_b := Nat.le_trans le_ox_b b11.size
  replace ox_b := ox_b.below b11
  have le_ou_a := Nat.le_refl w11.heap.size
  have in_ou_a := Own.inBlk ou_a
  go_wp2_with fail
  refine eqIntS_c ox_a.at ou_a.at ?_; intro w12 d12
  replace bel := bel.trans (d12.below _)
  replace le_ox_g := Nat.le_trans le_ox_g (d12.below 0).size
  replace ox_g := ox_g.drawn d12
  replace le_ox_a := Nat.le_trans le_ox_a (d12.below 0).size
  replace ox_a := ox_a.drawn d12
  replace le_ox_b := Nat.le_trans le_ox_b (d12.below 0).size
  replace ox_b := ox_b.drawn d12
  replace le_ou_a := Nat.le_trans le_ou_a (d12.below 0).size
  replace ou_a := ou_a.drawn d12
  clear le_ou_a sz_ou_a ou_a in_ou_a
  go_wp2_with fail
  refine toIntS_c (h_b.below bel) (by omega) ?_; intro vu_b w13 ou_b b13
  have sz_ou_b := bel.size
  have or_ox_g_ou_b := le_ox_g
  have or_ox_a_ou_b := le_ox_a
  have or_ox_b_ou_b := le_ox_b
  replace bel := bel.trans (b13.mono bel.size)
  replace le_ox_g := Nat.le_trans le_ox_g b13.size
  replace ox_g := ox_g.below b13
  replace le_ox_a := Nat.le_trans le_ox_a b13.size
  replace ox_a := ox_a.below b13
  replace le_ox_b := Nat.le_trans le_ox_b b13.size
  replace ox_b := ox_b.below b13
  have le_ou_b := Nat.le_refl w13.heap.size
  have in_ou_b := Own.inBlk ou_b
  go_wp2_with fail
  refine eqIntS_c ox_b.at ou_b.at ?_; intro w14 d14
  replace bel := bel.trans (d14.below _)
  replace le_ox_g := Nat.le_trans le_ox_g (d14.below 0).size
  replace ox_g := ox_g.drawn d14
  replace le_ox_a := Nat.le_trans le_ox_a (d14.below 0).size
  replace ox_a := ox_a.drawn d14
  replace le_ox_b := Nat.le_trans le_ox_b (d14.below 0).size
  replace ox_b := ox_b.drawn d14
  replace le_ou_b := Nat.le_trans le_ou_b (d14.below 0).size
  replace ou_b := ou_b.drawn d14
  clear le_ou_b sz_ou_b ou_b in_ou_b
  go_wp2
  exact H.out _ bel
end Go.Proofs.Ytblifocccpfmkaa
