/-
  The counts of necklaces, words of Lyndon and bracelets; the laws on numbers alone.
-/
import Derived.Test.YtieihnclolaflaaInts
set_option linter.unusedVariables false
namespace Go.Proofs.Ytieihnclolaflaa
open Go.RowKit

set_option maxHeartbeats 800000 in
theorem CountMirrored_i {n k : Int} {w : World} {Q : Ending → World → Prop} (hQ : ∀ w', Drawn w w' → Q (.returned (.int .i64 (Nums.mirr n k))) w') :
    Calls Try.prog 28 #[.int .i64 n, .int .i64 k] w Q := by
  have H := Lib.hid hQ; clear hQ
  by_cases hr : Nums.fits n k
  · have en := (Nums.neck_bd n k).2.2 hr
    have em : Hid (Nums.mirr n k = if n % 2 = 1 then Nums.pw k ((n + 1) / 2) else (Nums.pw k (n / 2) + Nums.pw k (n / 2 + 1)) / 2) := Lib.hid (by unfold Nums.mirr; rw [if_pos hr])
    obtain ⟨h1, h2, h3, h4⟩ := hr
    have a := Nums.pw_bd (k := k) (n := n / 2) (by omega) h4 (by omega)
    have b := Nums.pw_bd (k := k) (n := n / 2 + 1) (by omega) h4 (by omega)
    obtain ⟨a1, a2⟩ := a
    obtain ⟨b1, b2⟩ := b
    by_cases hp : n % 2 = 1
    · have hp' : (n % 2 == 1) = true := by rw [hp]; rfl
      have e : Hid (Nums.mirr n k = Nums.pw k ((n + 1) / 2)) := Lib.hid (by rw [em.out, if_pos hp])
      clear hp
      go_enter Try.func28, Try.ntmps28
      go_wp2_with (first | (go_at_call 43; refine isLength_i ?_) | (go_at_call 44; refine isColors_i ?_) | (go_at_call 45; refine power_i (by omega) (by omega) (by omega) (by omega) ?_))
      exact intq (H.out _ (Drawn.refl w)) e.out
    · have hp' : (n % 2 == 1) = false := beq_eq_false_iff_ne.2 hp
      have e : Hid (Nums.mirr n k = (Nums.pw k (n / 2) + Nums.pw k (n / 2 + 1)) / 2) := Lib.hid (by rw [em.out, if_neg hp])
      clear hp
      go_enter Try.func28, Try.ntmps28
      go_wp2_with (first | (go_at_call 43; refine isLength_i ?_) | (go_at_call 44; refine isColors_i ?_) | (go_at_call 45; refine power_i (by omega) (by omega) (by omega) (by omega) ?_))
      exact intq (H.out _ (Drawn.refl w)) e.out
  · have e : Hid (Nums.mirr n k = -1) := Lib.hid (by unfold Nums.mirr; rw [if_neg hr])
    unfold Nums.fits at hr
    by_cases hn : 1 ≤ n ∧ n ≤ 10
    · have hk : decide (1 ≤ k ∧ k ≤ 4) = false := decide_eq_false (by omega)
      obtain ⟨hn1, hn2⟩ := hn
      clear hr
      go_enter Try.func28, Try.ntmps28
      go_wp2_with (first | (go_at_call 43; refine isLength_i ?_) | (go_at_call 44; refine isColors_i ?_))
      exact intq (H.out _ (Drawn.refl w)) e.out
    · have hk : decide (1 ≤ n ∧ n ≤ 10) = false := decide_eq_false hn
      clear hr hn
      go_enter Try.func28, Try.ntmps28
      go_wp2_with (first | (go_at_call 43; refine isLength_i ?_) | (go_at_call 44; refine isColors_i ?_))
      exact intq (H.out _ (Drawn.refl w)) e.out
set_option maxHeartbeats 800000 in
theorem CountMirrored_s {n k : Int} {w : World} {Q : Ending → World → Prop} (hQ : ∀ w', Drawn w w' → Q (.returned (.int .i64 (Nums.mirr n k))) w') :
    Calls Try.prog 27 #[.int .i64 n, .int .i64 k] w Q := by
  have H := Lib.hid hQ; clear hQ
  by_cases hr : Nums.fits n k
  · have en := (Nums.neck_bd n k).2.2 hr
    have em : Hid (Nums.mirr n k = if n % 2 = 1 then Nums.pw k ((n + 1) / 2) else (Nums.pw k (n / 2) + Nums.pw k (n / 2 + 1)) / 2) := Lib.hid (by unfold Nums.mirr; rw [if_pos hr])
    obtain ⟨h1, h2, h3, h4⟩ := hr
    have a := Nums.pw_bd (k := k) (n := n / 2) (by omega) h4 (by omega)
    have b := Nums.pw_bd (k := k) (n := n / 2 + 1) (by omega) h4 (by omega)
    obtain ⟨a1, a2⟩ := a
    obtain ⟨b1, b2⟩ := b
    by_cases hp : n % 2 = 1
    · have hp' : (n % 2 == 1) = true := by rw [hp]; rfl
      have e : Hid (Nums.mirr n k = Nums.pw k ((n + 1) / 2)) := Lib.hid (by rw [em.out, if_pos hp])
      clear hp
      go_enter Try.func27, Try.ntmps27
      go_wp2_with (first | (go_at_call 31; refine CountNecklaces_s ?_; intro w2 hd2) | (go_at_call 42; refine power_s (by omega) (by omega) (by omega) (by omega) ?_))
      exact intq (H.out _ hd2) e.out
    · have hp' : (n % 2 == 1) = false := beq_eq_false_iff_ne.2 hp
      have e : Hid (Nums.mirr n k = (Nums.pw k (n / 2) + Nums.pw k (n / 2 + 1)) / 2) := Lib.hid (by rw [em.out, if_neg hp])
      clear hp
      go_enter Try.func27, Try.ntmps27
      go_wp2_with (first | (go_at_call 31; refine CountNecklaces_s ?_; intro w2 hd2) | (go_at_call 42; refine power_s (by omega) (by omega) (by omega) (by omega) ?_))
      exact intq (H.out _ hd2) e.out
  · have e : Hid (Nums.mirr n k = -1) := Lib.hid (by unfold Nums.mirr; rw [if_neg hr])
    have en : Hid (Nums.neck n k = -1) := Lib.hid (by unfold Nums.neck; rw [if_neg hr])
    clear hr
    go_enter Try.func27, Try.ntmps27
    go_wp2_with (go_at_call 31; refine CountNecklaces_s ?_; rw [en.out]; intro w2 hd2)
    exact intq (H.out _ hd2) e.out
set_option maxHeartbeats 800000 in
theorem CountBracelets_i {n k : Int} {w : World} {Q : Ending → World → Prop} (hQ : ∀ w', Drawn w w' → Q (.returned (.int .i64 (Nums.brac n k))) w') :
    Calls Try.prog 34 #[.int .i64 n, .int .i64 k] w Q := by
  have H := Lib.hid hQ; clear hQ
  by_cases hr : Nums.fits n k
  · have en := (Nums.neck_bd n k).2.2 hr
    have em := (Nums.mirr_bd n k).2.2 hr
    have e : Hid (Nums.brac n k = (Nums.neck n k + Nums.mirr n k) / 2) := Lib.hid (by unfold Nums.brac; rw [if_pos hr])
    obtain ⟨n1, n2, _⟩ := Nums.neck_bd n k
    obtain ⟨m1, m2, _⟩ := Nums.mirr_bd n k
    obtain ⟨b1, b2⟩ := Nums.brac_bd n k
    obtain ⟨h1, h2, h3, h4⟩ := hr
    go_enter Try.func34, Try.ntmps34
    go_wp2_with (first | (go_at_call 43; refine isLength_i ?_) | (go_at_call 44; refine isColors_i ?_))
    refine CountNecklaces_i ?_
    intro w1 hd1
    go_wp2_with (first | (go_at_call 43; refine isLength_i ?_) | (go_at_call 44; refine isColors_i ?_))
    refine CountMirrored_i ?_
    intro w2 hd2
    go_wp2
    exact intq (H.out _ (hd1.trans hd2)) e.out
  · have e : Hid (Nums.brac n k = -1) := Lib.hid (by unfold Nums.brac; rw [if_neg hr])
    unfold Nums.fits at hr
    by_cases hn : 1 ≤ n ∧ n ≤ 10
    · have hk : decide (1 ≤ k ∧ k ≤ 4) = false := decide_eq_false (by omega)
      obtain ⟨hn1, hn2⟩ := hn
      clear hr
      go_enter Try.func34, Try.ntmps34
      go_wp2_with (first | (go_at_call 43; refine isLength_i ?_) | (go_at_call 44; refine isColors_i ?_))
      exact intq (H.out _ (Drawn.refl w)) e.out
    · have hk : decide (1 ≤ n ∧ n ≤ 10) = false := decide_eq_false hn
      clear hr hn
      go_enter Try.func34, Try.ntmps34
      go_wp2_with (first | (go_at_call 43; refine isLength_i ?_) | (go_at_call 44; refine isColors_i ?_))
      exact intq (H.out _ (Drawn.refl w)) e.out
set_option maxHeartbeats 800000 in
theorem HandedPairs_i {n k : Int} {w : World} {Q : Ending → World → Prop} (hQ : ∀ w', Drawn w w' → Q (.returned (.int .i64 (Nums.hand n k))) w') :
    Calls Try.prog 36 #[.int .i64 n, .int .i64 k] w Q := by
  have H := Lib.hid hQ; clear hQ
  by_cases hr : Nums.fits n k
  · have en := (Nums.neck_bd n k).2.2 hr
    have em := (Nums.mirr_bd n k).2.2 hr
    have e : Hid (Nums.hand n k = Nums.neck n k - Nums.brac n k) := Lib.hid (by unfold Nums.hand; rw [if_pos hr])
    obtain ⟨n1, n2, _⟩ := Nums.neck_bd n k
    obtain ⟨m1, m2, _⟩ := Nums.mirr_bd n k
    obtain ⟨b1, b2⟩ := Nums.brac_bd n k
    obtain ⟨h1, h2, h3, h4⟩ := hr
    go_enter Try.func36, Try.ntmps36
    go_wp2_with (first | (go_at_call 43; refine isLength_i ?_) | (go_at_call 44; refine isColors_i ?_))
    refine CountNecklaces_i ?_
    intro w1 hd1
    go_wp2_with (first | (go_at_call 43; refine isLength_i ?_) | (go_at_call 44; refine isColors_i ?_))
    refine CountBracelets_i ?_
    intro w2 hd2
    go_wp2
    exact intq (H.out _ (hd1.trans hd2)) e.out
  · have e : Hid (Nums.hand n k = -1) := Lib.hid (by unfold Nums.hand; rw [if_neg hr])
    unfold Nums.fits at hr
    by_cases hn : 1 ≤ n ∧ n ≤ 10
    · have hk : decide (1 ≤ k ∧ k ≤ 4) = false := decide_eq_false (by omega)
      obtain ⟨hn1, hn2⟩ := hn
      clear hr
      go_enter Try.func36, Try.ntmps36
      go_wp2_with (first | (go_at_call 43; refine isLength_i ?_) | (go_at_call 44; refine isColors_i ?_))
      exact intq (H.out _ (Drawn.refl w)) e.out
    · have hk : decide (1 ≤ n ∧ n ≤ 10) = false := decide_eq_false hn
      clear hr hn
      go_enter Try.func36, Try.ntmps36
      go_wp2_with (first | (go_at_call 43; refine isLength_i ?_) | (go_at_call 44; refine isColors_i ?_))
      exact intq (H.out _ (Drawn.refl w)) e.out
set_option maxHeartbeats 800000 in
theorem CountBracelets_s {n k : Int} {w : World} {Q : Ending → World → Prop} (hQ : ∀ w', Drawn w w' → Q (.returned (.int .i64 (Nums.brac n k))) w') :
    Calls Try.prog 33 #[.int .i64 n, .int .i64 k] w Q := by
  have H := Lib.hid hQ; clear hQ
  by_cases hr : Nums.fits n k
  · have en := (Nums.neck_bd n k).2.2 hr
    have em := (Nums.mirr_bd n k).2.2 hr
    have e : Hid (Nums.brac n k = (Nums.neck n k + Nums.mirr n k) / 2) := Lib.hid (by unfold Nums.brac; rw [if_pos hr])
    obtain ⟨n1, n2, _⟩ := Nums.neck_bd n k
    obtain ⟨m1, m2, _⟩ := Nums.mirr_bd n k
    obtain ⟨b1, b2⟩ := Nums.brac_bd n k
    obtain ⟨h1, h2, h3, h4⟩ := hr
    go_enter Try.func33, Try.ntmps33
    go_wp2_with fail
    refine CountNecklaces_s ?_
    intro w1 hd1
    go_wp2_with fail
    refine CountNecklaces_s ?_
    intro w2 hd2
    go_wp2_with fail
    refine CountMirrored_s ?_
    intro w3 hd3
    go_wp2
    exact intq (H.out _ ((hd1.trans hd2).trans hd3)) e.out
  · have e : Hid (Nums.brac n k = -1) := Lib.hid (by unfold Nums.brac; rw [if_neg hr])
    have en : Hid (Nums.neck n k = -1) := Lib.hid (by unfold Nums.neck; rw [if_neg hr])
    clear hr
    go_enter Try.func33, Try.ntmps33
    go_wp2_with (go_at_call 31; refine CountNecklaces_s ?_; rw [en.out]; intro w2 hd2)
    exact intq (H.out _ hd2) e.out
set_option maxHeartbeats 800000 in
theorem HandedPairs_s {n k : Int} {w : World} {Q : Ending → World → Prop} (hQ : ∀ w', Drawn w w' → Q (.returned (.int .i64 (Nums.hand n k))) w') :
    Calls Try.prog 35 #[.int .i64 n, .int .i64 k] w Q := by
  have H := Lib.hid hQ; clear hQ
  by_cases hr : Nums.fits n k
  · have en := (Nums.neck_bd n k).2.2 hr
    have em := (Nums.mirr_bd n k).2.2 hr
    have e : Hid (Nums.hand n k = Nums.neck n k - Nums.brac n k) := Lib.hid (by unfold Nums.hand; rw [if_pos hr])
    obtain ⟨n1, n2, _⟩ := Nums.neck_bd n k
    obtain ⟨m1, m2, _⟩ := Nums.mirr_bd n k
    obtain ⟨b1, b2⟩ := Nums.brac_bd n k
    obtain ⟨h1, h2, h3, h4⟩ := hr
    go_enter Try.func35, Try.ntmps35
    go_wp2_with fail
    refine CountNecklaces_s ?_
    intro w1 hd1
    go_wp2_with fail
    refine CountNecklaces_s ?_
    intro w2 hd2
    go_wp2_with fail
    refine CountBracelets_s ?_
    intro w3 hd3
    go_wp2
    exact intq (H.out _ ((hd1.trans hd2).trans hd3)) e.out
  · have e : Hid (Nums.hand n k = -1) := Lib.hid (by unfold Nums.hand; rw [if_neg hr])
    have en : Hid (Nums.neck n k = -1) := Lib.hid (by unfold Nums.neck; rw [if_neg hr])
    clear hr
    go_enter Try.func35, Try.ntmps35
    go_wp2_with (go_at_call 31; refine CountNecklaces_s ?_; rw [en.out]; intro w2 hd2)
    exact intq (H.out _ hd2) e.out
set_option maxHeartbeats 400000 in
theorem FnExactAreOpposite_l {a b : Int} {w : World} {Q : Ending → World → Prop} (hQ : ∀ w', Below w.heap.size w w' → Q (.returned (.bool true)) w') :
    Calls Try.prog 3 #[.int .i64 a, .int .i64 b] w Q := by
  have H := Lib.hid hQ; clear hQ
  go_enter Try.func3, Try.ntmps3
  go_wp2_with fail
  refine AreOpposite_s ?_
  go_wp2_with fail
  refine AreOpposite_i ?_
  go_wp2
  exact H.out _ (Below.refl _ _)
set_option maxHeartbeats 400000 in
theorem FnExactSolidDegree_l {a : Int} {w : World} {Q : Ending → World → Prop} (hQ : ∀ w', Below w.heap.size w w' → Q (.returned (.bool true)) w') :
    Calls Try.prog 4 #[.int .i64 a] w Q := by
  have H := Lib.hid hQ; clear hQ
  go_enter Try.func4, Try.ntmps4
  go_wp2_with fail
  refine SolidDegree_s ?_
  go_wp2_with fail
  refine SolidDegree_i ?_
  go_wp2
  exact H.out _ (Below.refl _ _)
set_option maxHeartbeats 400000 in
theorem FnExactMobius_l {a : Int} {w : World} {Q : Ending → World → Prop} (hQ : ∀ w', Below w.heap.size w w' → Q (.returned (.bool true)) w') :
    Calls Try.prog 5 #[.int .i64 a] w Q := by
  have H := Lib.hid hQ; clear hQ
  go_enter Try.func5, Try.ntmps5
  go_wp2_with fail
  refine Mobius_s ?_
  go_wp2_with fail
  refine Mobius_i ?_
  go_wp2
  exact H.out _ (Below.refl _ _)
set_option maxHeartbeats 400000 in
theorem FnExactTotient_l {a : Int} {w : World} {Q : Ending → World → Prop} (hQ : ∀ w', Below w.heap.size w w' → Q (.returned (.bool true)) w') :
    Calls Try.prog 6 #[.int .i64 a] w Q := by
  have H := Lib.hid hQ; clear hQ
  go_enter Try.func6, Try.ntmps6
  go_wp2_with fail
  refine Totient_s ?_
  go_wp2_with fail
  refine Totient_i ?_
  intro w2 hd2
  go_wp2
  exact H.out _ (hd2.below _)
set_option maxHeartbeats 400000 in
theorem FnExactCountMirrored_l {n k : Int} {w : World} {Q : Ending → World → Prop} (hQ : ∀ w', Below w.heap.size w w' → Q (.returned (.bool true)) w') :
    Calls Try.prog 9 #[.int .i64 n, .int .i64 k] w Q := by
  have H := Lib.hid hQ; clear hQ
  go_enter Try.func9, Try.ntmps9
  go_wp2_with fail
  refine CountMirrored_s ?_
  intro w1 hd1
  go_wp2_with fail
  refine CountMirrored_i ?_
  intro w2 hd2
  go_wp2
  exact H.out _ ((hd1.trans hd2).below _)
set_option maxHeartbeats 400000 in
theorem FnExactCountLyndon_l {n k : Int} {w : World} {Q : Ending → World → Prop} (hQ : ∀ w', Below w.heap.size w w' → Q (.returned (.bool true)) w') :
    Calls Try.prog 10 #[.int .i64 n, .int .i64 k] w Q := by
  have H := Lib.hid hQ; clear hQ
  go_enter Try.func10, Try.ntmps10
  go_wp2_with fail
  refine CountLyndon_s ?_
  intro w1 hd1
  go_wp2_with fail
  refine CountLyndon_i ?_
  intro w2 hd2
  go_wp2
  exact H.out _ ((hd1.trans hd2).below _)
set_option maxHeartbeats 400000 in
theorem FnExactCountNecklaces_l {n k : Int} {w : World} {Q : Ending → World → Prop} (hQ : ∀ w', Below w.heap.size w w' → Q (.returned (.bool true)) w') :
    Calls Try.prog 11 #[.int .i64 n, .int .i64 k] w Q := by
  have H := Lib.hid hQ; clear hQ
  go_enter Try.func11, Try.ntmps11
  go_wp2_with fail
  refine CountNecklaces_s ?_
  intro w1 hd1
  go_wp2_with fail
  refine CountNecklaces_i ?_
  intro w2 hd2
  go_wp2
  exact H.out _ ((hd1.trans hd2).below _)
set_option maxHeartbeats 400000 in
theorem FnExactCountBracelets_l {n k : Int} {w : World} {Q : Ending → World → Prop} (hQ : ∀ w', Below w.heap.size w w' → Q (.returned (.bool true)) w') :
    Calls Try.prog 12 #[.int .i64 n, .int .i64 k] w Q := by
  have H := Lib.hid hQ; clear hQ
  go_enter Try.func12, Try.ntmps12
  go_wp2_with fail
  refine CountBracelets_s ?_
  intro w1 hd1
  go_wp2_with fail
  refine CountBracelets_i ?_
  intro w2 hd2
  go_wp2
  exact H.out _ ((hd1.trans hd2).below _)
set_option maxHeartbeats 400000 in
theorem FnExactHandedPairs_l {n k : Int} {w : World} {Q : Ending → World → Prop} (hQ : ∀ w', Below w.heap.size w w' → Q (.returned (.bool true)) w') :
    Calls Try.prog 13 #[.int .i64 n, .int .i64 k] w Q := by
  have H := Lib.hid hQ; clear hQ
  go_enter Try.func13, Try.ntmps13
  go_wp2_with fail
  refine HandedPairs_s ?_
  intro w1 hd1
  go_wp2_with fail
  refine HandedPairs_i ?_
  intro w2 hd2
  go_wp2
  exact H.out _ ((hd1.trans hd2).below _)
end Go.Proofs.Ytieihnclolaflaa
