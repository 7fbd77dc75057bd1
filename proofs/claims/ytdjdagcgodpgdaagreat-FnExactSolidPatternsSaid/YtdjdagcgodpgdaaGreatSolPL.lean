/-
  The law on the patterns of solid bodies.
-/
import Derived.Test.YtdjdagcgodpgdaaGreatSolP
import Derived.Test.YtdjdagcgodpgdaaGreatLawS
import Derived.Test.YtdjdagcgodpgdaaGreatLaw
set_option linter.unusedVariables false
namespace Go.Proofs.YtdjdagcgodpgdaaGreat
open Go.RowKit

theorem Perms.patsW_sum1 (g : List (List Int)) (k : Int) : (Perms.patsW g k).length + sumLen (Perms.patsW g k) ≤ 1048576 := by
  unfold Perms.patsW
  split
  · rename_i h
    have h1 := Perms.pats_len h
    have h2 := Perms.sumLen_rows (n := 10) (g := Perms.pats g k) fun p hp => by
      have := (Perms.pats_mem.1 hp).1.1
      have := Perms.row0_len (Perms.smallB_parts h).1
      omega
    omega
  · simp [sumLen]
set_option maxHeartbeats 3200000 in
theorem FnExactSolidPatterns_l {k : Int} {c : Int} {w : World} {Q : Ending → World → Prop}  (hQ : ∀ w', Below w.heap.size w w' → Q (.returned (.bool true)) w') :
    Calls Tryz.prog 3 #[.int .i64 k, .int .i64 c] w Q := by
  have H := Lib.hid hQ; clear hQ
  go_enter Tryz.func3, Tryz.ntmps3
  have bel := Below.refl w.heap.size w
  go_wp2_with fail
  refine SolidPatterns_s ?_; intro vs0 w1 os0 b1
  have sz_os0 := bel.size
  replace bel := bel.trans (b1.mono bel.size)
  have le_os0 := Nat.le_refl w1.heap.size
  go_wp2_with fail
  refine SolidPatterns_i ?_; intro vg0 w2 og0 b2
  have sz_og0 := bel.size
  have or_os0_og0 := le_os0
  replace bel := bel.trans (b2.mono bel.size)
  replace le_os0 := Nat.le_trans le_os0 b2.size
  replace os0 := os0.below b2
  have le_og0 := Nat.le_refl w2.heap.size
  go_wp2_with fail
  refine eqIntSS_c og0.at os0.at ?_; intro w3 d3
  replace bel := bel.trans (d3.below _)
  replace le_os0 := Nat.le_trans le_os0 (d3.below 0).size
  replace os0 := os0.drawn d3
  replace le_og0 := Nat.le_trans le_og0 (d3.below 0).size
  replace og0 := og0.drawn d3
  have rb := Perms.patsW_sum1 (Perms.solW k false) c
  go_wp2_with fail
  refine markIntSS_c og0 (by omega) (by omega) (by omega) ?_; intro w4 m4 g4
  replace bel := bel.trans (g4.below sz_og0 bel.size)
  replace le_os0 := Nat.le_trans le_os0 g4.size
  replace os0 := os0.touch g4 (.inl or_os0_og0)
  replace le_og0 := Nat.le_trans le_og0 g4.size
  replace og0 := m4
  go_wp2_with fail
  refine heldIntSS_c og0.at (by omega) (by omega) (by omega) ?_
  go_wp2_with fail
  refine SolidPatterns_i ?_; intro vh0 w5 oh0 b5
  have sz_oh0 := bel.size
  have or_os0_oh0 := le_os0
  have or_og0_oh0 := le_og0
  replace bel := bel.trans (b5.mono bel.size)
  replace le_os0 := Nat.le_trans le_os0 b5.size
  replace os0 := os0.below b5
  replace le_og0 := Nat.le_trans le_og0 b5.size
  replace og0 := og0.below b5
  have le_oh0 := Nat.le_refl w5.heap.size
  go_wp2_with fail
  refine eqIntSS_c oh0.at os0.at ?_; intro w6 d6
  replace bel := bel.trans (d6.below _)
  replace le_os0 := Nat.le_trans le_os0 (d6.below 0).size
  replace os0 := os0.drawn d6
  replace le_og0 := Nat.le_trans le_og0 (d6.below 0).size
  replace og0 := og0.drawn d6
  replace le_oh0 := Nat.le_trans le_oh0 (d6.below 0).size
  replace oh0 := oh0.drawn d6
  go_wp2_with fail
  refine heldIntSS_c og0.at (by omega) (by omega) (by omega) ?_
  go_wp2
  exact H.out _ bel
end Go.Proofs.YtdjdagcgodpgdaaGreat
