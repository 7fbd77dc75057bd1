/-
  The laws on the lists of words of Lyndon and of bracelets.
-/
import Derived.Test.YtmlmpneikhdgcaaEnumS
import Derived.Test.YtmlmpneikhdgcaaEnumI
import Derived.Test.YtmlmpneikhdgcaaLawS
import Derived.Test.YtmlmpneikhdgcaaLaw
set_option linter.unusedVariables false
namespace Go.Proofs.Ytmlmpneikhdgcaa
open Go.RowKit

theorem Words.sumLen_le {n : Nat} : ∀ {g : List (List Int)}, (∀ p ∈ g, p.length ≤ n) → sumLen g ≤ g.length * n
  | [], _ => by simp [sumLen]
  | p :: g, h => by
    have h1 := Words.sumLen_le (g := g) (n := n) fun q hq => h q (List.mem_cons_of_mem _ hq)
    have h2 := h p (List.mem_cons_self ..)
    simp only [sumLen, List.length_cons, Nat.add_mul, Nat.one_mul]
    omega
theorem Words.enumO_len (P : List Int → Bool) (n k : Int) : (Words.enumO P n k).length ≤ 1024 ∧ ∀ x ∈ Words.enumO P n k, x.length ≤ 10 := by
  unfold Words.enumO
  split
  · rename_i hs
    unfold Words.smallN at hs
    simp only [Bool.and_eq_true, decide_eq_true_eq] at hs
    obtain ⟨⟨hn1, hn2⟩, ⟨hk1, hk4⟩, hpw⟩ := hs
    obtain ⟨m, rfl⟩ : ∃ m : Nat, n = m := ⟨n.toNat, by omega⟩
    rw [Words.pw_pow (by omega)] at hpw
    rw [Int.toNat_natCast]
    unfold Words.enumW
    refine ⟨?_, fun x hx => ?_⟩
    · have h1 := List.length_filter_le P (Perms.wordsN k.toNat m)
      rw [Perms.wordsN_len] at h1
      omega
    · have := (Perms.wordsN_mem.1 (List.mem_filter.1 hx).1).1
      omega
  · exact ⟨by simp, fun x hx => by cases hx⟩
theorem Words.enumO_sum (P : List Int → Bool) (n k : Int) : (Words.enumO P n k).length + sumLen (Words.enumO P n k) ≤ 1048576 := by
  obtain ⟨h1, h2⟩ := Words.enumO_len P n k
  have := Words.sumLen_le h2
  have := Nat.mul_le_mul_right 10 h1
  omega
set_option maxHeartbeats 3200000 in
theorem FnExactLyndonWords_l {n : Int} {k : Int} {w : World} {Q : Ending → World → Prop}  (hQ : ∀ w', Below w.heap.size w w' → Q (.returned (.bool true)) w') :
    Calls Try.prog 6 #[.int .i64 n, .int .i64 k] w Q := by
  have H := Lib.hid hQ; clear hQ
  go_enter Try.func6, Try.ntmps6
  have bel := Below.refl w.heap.size w
  go_wp2_with fail
  refine LyndonWords_s ?_; intro vs0 w1 os0 b1
  have sz_os0 := bel.size
  replace bel := bel.trans (b1.mono bel.size)
  have le_os0 := Nat.le_refl w1.heap.size
  go_wp2_with fail
  refine LyndonWords_i ?_; intro vg0 w2 og0 b2
  have sz_og0 := bel.size
  have or_os0_og0 := le_os0
  replace bel := bel.trans (b2.mono bel.size)
  replace le_os0 := Nat.le_trans le_os0 b2.size
  replace os0 := os0.below b2
  have le_og0 := Nat.le_refl w2.heap.size
  go_wp2_with fail
  refine eqIntSS_c og0.at os0.at ?_; intro w3 d3
  replace bel := bel.trans (d3.below _)
  replace le_os0 := Nat.le_trans le_os0 (d3.below 0).size
  replace os0 := os0.drawn d3
  replace le_og0 := Nat.le_trans le_og0 (d3.below 0).size
  replace og0 := og0.drawn d3
  have rb := Words.enumO_sum Words.lynB n k
  go_wp2_with fail
  refine markIntSS_c og0 (by omega) (by omega) (by omega) ?_; intro w4 m4 g4
  replace bel := bel.trans (g4.below sz_og0 bel.size)
  replace le_os0 := Nat.le_trans le_os0 g4.size
  replace os0 := os0.touch g4 (.inl or_os0_og0)
  replace le_og0 := Nat.le_trans le_og0 g4.size
  replace og0 := m4
  go_wp2_with fail
  refine heldIntSS_c og0.at (by omega) (by omega) (by omega) ?_
  go_wp2_with fail
  refine LyndonWords_i ?_; intro vh0 w5 oh0 b5
  have sz_oh0 := bel.size
  have or_os0_oh0 := le_os0
  have or_og0_oh0 := le_og0
  replace bel := bel.trans (b5.mono bel.size)
  replace le_os0 := Nat.le_trans le_os0 b5.size
  replace os0 := os0.below b5
  replace le_og0 := Nat.le_trans le_og0 b5.size
  replace og0 := og0.below b5
  have le_oh0 := Nat.le_refl w5.heap.size
  go_wp2_with fail
  refine eqIntSS_c oh0.at os0.at ?_; intro w6 d6
  replace bel := bel.trans (d6.below _)
  replace le_os0 := Nat.le_trans le_os0 (d6.below 0).size
  replace os0 := os0.drawn d6
  replace le_og0 := Nat.le_trans le_og0 (d6.below 0).size
  replace og0 := og0.drawn d6
  replace le_oh0 := Nat.le_trans le_oh0 (d6.below 0).size
  replace oh0 := oh0.drawn d6
  go_wp2_with fail
  refine heldIntSS_c og0.at (by omega) (by omega) (by omega) ?_
  go_wp2
  exact H.out _ bel
set_option maxHeartbeats 3200000 in
theorem FnExactBraceletsOf_l {n : Int} {k : Int} {w : World} {Q : Ending → World → Prop}  (hQ : ∀ w', Below w.heap.size w w' → Q (.returned (.bool true)) w') :
    Calls Try.prog 7 #[.int .i64 n, .int .i64 k] w Q := by
  have H := Lib.hid hQ; clear hQ
  go_enter Try.func7, Try.ntmps7
  have bel := Below.refl w.heap.size w
  go_wp2_with fail
  refine BraceletsOf_s ?_; intro vs0 w1 os0 b1
  have sz_os0 := bel.size
  replace bel := bel.trans (b1.mono bel.size)
  have le_os0 := Nat.le_refl w1.heap.size
  go_wp2_with fail
  refine BraceletsOf_i ?_; intro vg0 w2 og0 b2
  have sz_og0 := bel.size
  have or_os0_og0 := le_os0
  replace bel := bel.trans (b2.mono bel.size)
  replace le_os0 := Nat.le_trans le_os0 b2.size
  replace os0 := os0.below b2
  have le_og0 := Nat.le_refl w2.heap.size
  go_wp2_with fail
  refine eqIntSS_c og0.at os0.at ?_; intro w3 d3
  replace bel := bel.trans (d3.below _)
  replace le_os0 := Nat.le_trans le_os0 (d3.below 0).size
  replace os0 := os0.drawn d3
  replace le_og0 := Nat.le_trans le_og0 (d3.below 0).size
  replace og0 := og0.drawn d3
  have rb := Words.enumO_sum Words.brB n k
  go_wp2_with fail
  refine markIntSS_c og0 (by omega) (by omega) (by omega) ?_; intro w4 m4 g4
  replace bel := bel.trans (g4.below sz_og0 bel.size)
  replace le_os0 := Nat.le_trans le_os0 g4.size
  replace os0 := os0.touch g4 (.inl or_os0_og0)
  replace le_og0 := Nat.le_trans le_og0 g4.size
  replace og0 := m4
  go_wp2_with fail
  refine heldIntSS_c og0.at (by omega) (by omega) (by omega) ?_
  go_wp2_with fail
  refine BraceletsOf_i ?_; intro vh0 w5 oh0 b5
  have sz_oh0 := bel.size
  have or_os0_oh0 := le_os0
  have or_og0_oh0 := le_og0
  replace bel := bel.trans (b5.mono bel.size)
  replace le_os0 := Nat.le_trans le_os0 b5.size
  replace os0 := os0.below b5
  replace le_og0 := Nat.le_trans le_og0 b5.size
  replace og0 := og0.below b5
  have le_oh0 := Nat.le_refl w5.heap.size
  go_wp2_with fail
  refine eqIntSS_c oh0.at os0.at ?_; intro w6 d6
  replace bel := bel.trans (d6.below _)
  replace le_os0 := Nat.le_trans le_os0 (d6.below 0).size
  replace os0 := os0.drawn d6
  replace le_og0 := Nat.le_trans le_og0 (d6.below 0).size
  replace og0 := og0.drawn d6
  replace le_oh0 := Nat.le_trans le_oh0 (d6.below 0).size
  replace oh0 := oh0.drawn d6
  go_wp2_with fail
  refine heldIntSS_c og0.at (by omega) (by omega) (by omega) ?_
  go_wp2
  exact H.out _ bel
end Go.Proofs.Ytmlmpneikhdgcaa
