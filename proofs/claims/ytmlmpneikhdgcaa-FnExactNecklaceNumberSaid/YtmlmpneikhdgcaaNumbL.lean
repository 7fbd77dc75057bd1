/-
  The law on the number of a necklace.
-/
import Derived.Test.YtmlmpneikhdgcaaNumb
import Derived.Test.YtmlmpneikhdgcaaLaw
set_option linter.unusedVariables false
namespace Go.Proofs.Ytmlmpneikhdgcaa
open Go.RowKit

set_option maxHeartbeats 1600000 in
theorem FnExactNecklaceNumber_l {xs : List Int} {k : Int} {v_xs : Value} {w : World} {Q : Ending → World → Prop} (h_xs : IntsAt w v_xs xs) (hQ : ∀ w', Below w.heap.size w w' → Q (.returned (.bool true)) w') :
    Calls Try.prog 5 #[v_xs, .int .i64 k] w Q := by
  have H := Lib.hid hQ; clear hQ
  have h0_xs := h_xs
  obtain ⟨ao_xs, ca_xs, rfl, la_xs, lc_xs, cc_xs⟩ := h0_xs.form
  clear h0_xs
  rcases Int.lt_or_le 1048576 (xs.length : Int) with b_xs | b_xs
  · go_enter Try.func5, Try.ntmps5
    go_wp2
    exact H.out _ (Below.refl _ _)
  go_enter Try.func5, Try.ntmps5
  have bel := Below.refl w.heap.size w
  go_wp2_with fail
  refine toIntS_c (h_xs.below bel) (by omega) ?_; intro vt_xs w1 ot_xs b1
  have sz_ot_xs := bel.size
  replace bel := bel.trans (b1.mono bel.size)
  go_wp2_with fail
  refine NecklaceNumber_s (OwnInts.at ot_xs) (by omega) ?_; intro w2 b2
  replace bel := bel.trans (b2.mono bel.size)
  replace ot_xs := Own.below ot_xs b2
  go_wp2_with fail
  refine toIntS_c (h_xs.below bel) (by omega) ?_; intro vx_xs w3 ox_xs b3
  have sz_ox_xs := bel.size
  replace bel := bel.trans (b3.mono bel.size)
  go_wp2_with fail
  refine NecklaceNumber_i (OwnInts.at ox_xs) (by omega) ?_; intro w4 b4
  replace bel := bel.trans (b4.mono bel.size)
  replace ox_xs := Own.below ox_xs b4
  go_wp2_with fail
  refine toIntS_c (h_xs.below bel) (by omega) ?_; intro vu_xs w5 ou_xs b5
  have sz_ou_xs := bel.size
  have ne_ox_xs_ou_xs := own_ne ox_xs ou_xs (Nat.le_refl _)
  have ne_ou_xs_ox_xs := own_ne' ox_xs ou_xs (Nat.le_refl _)
  replace bel := bel.trans (b5.mono bel.size)
  replace ox_xs := Own.below ox_xs b5
  go_wp2_with fail
  refine eqIntS_c (OwnInts.at ox_xs) (OwnInts.at ou_xs) ?_; intro w6 d6
  replace bel := bel.trans (d6.below _)
  replace ox_xs := Own.drawn ox_xs d6
  go_wp2
  exact H.out _ bel
end Go.Proofs.Ytmlmpneikhdgcaa
