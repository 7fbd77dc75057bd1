/-
  The law on the word of all words.
-/
import Derived.Test.YtmlmpneikhdgcaaWallS
import Derived.Test.YtmlmpneikhdgcaaLaw
set_option linter.unusedVariables false
namespace Go.Proofs.Ytmlmpneikhdgcaa
open Go.RowKit

set_option maxHeartbeats 1600000 in
theorem FnExactWordOfAll_l {n : Int} {k : Int} {w : World} {Q : Ending → World → Prop}  (hQ : ∀ w', Below w.heap.size w w' → Q (.returned (.bool true)) w') :
    Calls Try.prog 8 #[.int .i64 n, .int .i64 k] w Q := by
  have H := Lib.hid hQ; clear hQ
  go_enter Try.func8, Try.ntmps8
  have bel := Below.refl w.heap.size w
  go_wp2_with fail
  refine WordOfAll_s ?_; intro vs0 w1 os0 b1
  have sz_os0 := bel.size
  replace bel := bel.trans (b1.mono bel.size)
  go_wp2_with fail
  refine WordOfAll_i ?_; intro vg0 w2 og0 b2
  have sz_og0 := bel.size
  have ne_os0_og0 := own_ne os0 og0 (Nat.le_refl _)
  have ne_og0_os0 := own_ne' os0 og0 (Nat.le_refl _)
  replace bel := bel.trans (b2.mono bel.size)
  replace os0 := Own.below os0 b2
  go_wp2_with fail
  refine eqIntS_c (OwnInts.at og0) (OwnInts.at os0) ?_; intro w3 d3
  replace bel := bel.trans (d3.below _)
  replace os0 := Own.drawn os0 d3
  replace og0 := Own.drawn og0 d3
  have rb := Words.wallW_len n k
  go_wp2_with fail
  refine markIntS_c og0 (by omega) (by omega) (by omega) ?_; intro w4 m4 g4
  replace bel := bel.grown g4 bel.size (fun k hk => Nat.le_trans sz_og0 (Own.lt og0 hk).1)
  replace os0 := Own.grown os0 g4 ne_os0_og0
  replace og0 := m4
  go_wp2_with fail
  refine heldIntS_c (OwnInts.at og0) (by omega) (by omega) (by omega) ?_
  go_wp2_with fail
  refine WordOfAll_i ?_; intro vh0 w5 oh0 b5
  have sz_oh0 := bel.size
  have ne_os0_oh0 := own_ne os0 oh0 (Nat.le_refl _)
  have ne_oh0_os0 := own_ne' os0 oh0 (Nat.le_refl _)
  have ne_og0_oh0 := own_ne og0 oh0 (Nat.le_refl _)
  have ne_oh0_og0 := own_ne' og0 oh0 (Nat.le_refl _)
  replace bel := bel.trans (b5.mono bel.size)
  replace os0 := Own.below os0 b5
  replace og0 := Own.below og0 b5
  go_wp2_with fail
  refine eqIntS_c (OwnInts.at oh0) (OwnInts.at os0) ?_; intro w6 d6
  replace bel := bel.trans (d6.below _)
  replace os0 := Own.drawn os0 d6
  replace og0 := Own.drawn og0 d6
  replace oh0 := Own.drawn oh0 d6
  go_wp2_with fail
  refine heldIntS_c (OwnInts.at og0) (by omega) (by omega) (by omega) ?_
  go_wp2
  exact H.out _ bel
end Go.Proofs.Ytmlmpneikhdgcaa
