/-
  The law on the next necklace.
-/
import Derived.Test.YtmlmpneikhdgcaaNextS
import Derived.Test.YtmlmpneikhdgcaaLaw
set_option linter.unusedVariables false
namespace Go.Proofs.Ytmlmpneikhdgcaa
open Go.RowKit

set_option maxHeartbeats 1600000 in
theorem FnExactNextNecklace_l {xs : List Int} {k : Int} {v_xs : Value} {w : World} {Q : Ending → World → Prop} (h_xs : IntsAt w v_xs xs) (hQ : ∀ w', Below w.heap.size w w' → Q (.returned (.bool true)) w') :
    Calls Try.prog 3 #[v_xs, .int .i64 k] w Q := by
  have H := Lib.hid hQ; clear hQ
  have h0_xs := h_xs
  obtain ⟨ao_xs, ca_xs, rfl, la_xs, lc_xs, cc_xs⟩ := h0_xs.form
  clear h0_xs
  rcases Int.lt_or_le 1048576 (xs.length : Int) with b_xs | b_xs
  · go_enter Try.func3, Try.ntmps3
    go_wp2
    exact H.out _ (Below.refl _ _)
  go_enter Try.func3, Try.ntmps3
  have bel := Below.refl w.heap.size w
  go_wp2_with fail
  refine toIntS_c (h_xs.below bel) (by omega) ?_; intro vt_xs w1 ot_xs b1
  have sz_ot_xs := bel.size
  replace bel := bel.trans (b1.mono bel.size)
  go_wp2_with fail
  refine NextNecklace_s (OwnInts.at ot_xs) ?_; intro vs0 w2 os0 b2
  have sz_os0 := bel.size
  have ne_ot_xs_os0 := own_ne ot_xs os0 (Nat.le_refl _)
  have ne_os0_ot_xs := own_ne' ot_xs os0 (Nat.le_refl _)
  replace bel := bel.trans (b2.mono bel.size)
  replace ot_xs := Own.below ot_xs b2
  go_wp2_with fail
  refine toIntS_c (h_xs.below bel) (by omega) ?_; intro vx_xs w3 ox_xs b3
  have sz_ox_xs := bel.size
  have ne_os0_ox_xs := own_ne os0 ox_xs (Nat.le_refl _)
  have ne_ox_xs_os0 := own_ne' os0 ox_xs (Nat.le_refl _)
  replace bel := bel.trans (b3.mono bel.size)
  replace os0 := Own.below os0 b3
  go_wp2_with fail
  refine NextNecklace_i (OwnInts.at ox_xs) ?_; intro vg0 w4 og0 b4
  have sz_og0 := bel.size
  have ne_os0_og0 := own_ne os0 og0 (Nat.le_refl _)
  have ne_og0_os0 := own_ne' os0 og0 (Nat.le_refl _)
  have ne_ox_xs_og0 := own_ne ox_xs og0 (Nat.le_refl _)
  have ne_og0_ox_xs := own_ne' ox_xs og0 (Nat.le_refl _)
  replace bel := bel.trans (b4.mono bel.size)
  replace os0 := Own.below os0 b4
  replace ox_xs := Own.below ox_xs b4
  go_wp2_with fail
  refine eqIntS_c (OwnInts.at og0) (OwnInts.at os0) ?_; intro w5 d5
  replace bel := bel.trans (d5.below _)
  replace os0 := Own.drawn os0 d5
  replace ox_xs := Own.drawn ox_xs d5
  replace og0 := Own.drawn og0 d5
  go_wp2_with fail
  refine toIntS_c (h_xs.below bel) (by omega) ?_; intro vu_xs w6 ou_xs b6
  have sz_ou_xs := bel.size
  have ne_os0_ou_xs := own_ne os0 ou_xs (Nat.le_refl _)
  have ne_ou_xs_os0 := own_ne' os0 ou_xs (Nat.le_refl _)
  have ne_ox_xs_ou_xs := own_ne ox_xs ou_xs (Nat.le_refl _)
  have ne_ou_xs_ox_xs := own_ne' ox_xs ou_xs (Nat.le_refl _)
  have ne_og0_ou_xs := own_ne og0 ou_xs (Nat.le_refl _)
  have ne_ou_xs_og0 := own_ne' og0 ou_xs (Nat.le_refl _)
  replace bel := bel.trans (b6.mono bel.size)
  replace os0 := Own.below os0 b6
  replace ox_xs := Own.below ox_xs b6
  replace og0 := Own.below og0 b6
  go_wp2_with fail
  refine eqIntS_c (OwnInts.at ox_xs) (OwnInts.at ou_xs) ?_; intro w7 d7
  replace bel := bel.trans (d7.below _)
  replace os0 := Own.drawn os0 d7
  replace ox_xs := Own.drawn ox_xs d7
  replace og0 := Own.drawn og0 d7
  have rb := Words.nextW_len xs k
  go_wp2_with fail
  refine markIntS_c ox_xs (by omega) (by omega) (by omega) ?_; intro w8 m8 g8
  replace bel := bel.grown g8 bel.size (fun k hk => Nat.le_trans sz_ox_xs (Own.lt ox_xs hk).1)
  replace os0 := Own.grown os0 g8 ne_os0_ox_xs
  replace og0 := Own.grown og0 g8 ne_og0_ox_xs
  replace ox_xs := m8
  go_wp2_with fail
  refine eqIntS_c (OwnInts.at og0) (OwnInts.at os0) ?_; intro w9 d9
  replace bel := bel.trans (d9.below _)
  replace os0 := Own.drawn os0 d9
  replace ox_xs := Own.drawn ox_xs d9
  replace og0 := Own.drawn og0 d9
  go_wp2_with fail
  refine markIntS_c og0 (by omega) (by omega) (by omega) ?_; intro w10 m10 g10
  replace bel := bel.grown g10 bel.size (fun k hk => Nat.le_trans sz_og0 (Own.lt og0 hk).1)
  replace os0 := Own.grown os0 g10 ne_os0_og0
  replace ox_xs := Own.grown ox_xs g10 ne_ox_xs_og0
  replace og0 := m10
  go_wp2_with fail
  refine heldIntS_c (OwnInts.at og0) (by omega) (by omega) (by omega) ?_
  go_wp2_with fail
  refine toIntS_c (h_xs.below bel) (by omega) ?_; intro vy_xs w11 oy_xs b11
  have sz_oy_xs := bel.size
  have ne_os0_oy_xs := own_ne os0 oy_xs (Nat.le_refl _)
  have ne_oy_xs_os0 := own_ne' os0 oy_xs (Nat.le_refl _)
  have ne_og0_oy_xs := own_ne og0 oy_xs (Nat.le_refl _)
  have ne_oy_xs_og0 := own_ne' og0 oy_xs (Nat.le_refl _)
  replace bel := bel.trans (b11.mono bel.size)
  replace os0 := Own.below os0 b11
  replace og0 := Own.below og0 b11
  go_wp2_with fail
  refine NextNecklace_i (OwnInts.at oy_xs) ?_; intro vh0 w12 oh0 b12
  have sz_oh0 := bel.size
  have ne_os0_oh0 := own_ne os0 oh0 (Nat.le_refl _)
  have ne_oh0_os0 := own_ne' os0 oh0 (Nat.le_refl _)
  have ne_og0_oh0 := own_ne og0 oh0 (Nat.le_refl _)
  have ne_oh0_og0 := own_ne' og0 oh0 (Nat.le_refl _)
  have ne_oy_xs_oh0 := own_ne oy_xs oh0 (Nat.le_refl _)
  have ne_oh0_oy_xs := own_ne' oy_xs oh0 (Nat.le_refl _)
  replace bel := bel.trans (b12.mono bel.size)
  replace os0 := Own.below os0 b12
  replace og0 := Own.below og0 b12
  replace oy_xs := Own.below oy_xs b12
  go_wp2_with fail
  refine eqIntS_c (OwnInts.at oh0) (OwnInts.at os0) ?_; intro w13 d13
  replace bel := bel.trans (d13.below _)
  replace os0 := Own.drawn os0 d13
  replace og0 := Own.drawn og0 d13
  replace oh0 := Own.drawn oh0 d13
  go_wp2_with fail
  refine heldIntS_c (OwnInts.at og0) (by omega) (by omega) (by omega) ?_
  go_wp2
  exact H.out _ bel
end Go.Proofs.Ytmlmpneikhdgcaa
