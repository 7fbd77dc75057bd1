/-
  Whether there are few words.
-/
import Derived.Test.YtdjdagcgodpgdaaGreatInts
set_option linter.unusedVariables false
namespace Go.Proofs.YtdjdagcgodpgdaaGreat
open Go.RowKit

set_option maxHeartbeats 400000 in
theorem isSmall_i {n k : Int} {w : World} {Q : Ending → World → Prop} (hn0 : 0 ≤ n) (hn : n ≤ 10) (hQ : Q (.returned (.bool (decide (1 ≤ k ∧ k ≤ 4) && decide (Nums.pw k n ≤ 1024)))) w) :
    Calls Tryz.prog 40 #[.int .i64 n, .int .i64 k] w Q := by
  have H := Lib.hid hQ; clear hQ
  by_cases h1 : 1 ≤ k
  · by_cases h2 : k ≤ 4
    · go_enter Tryz.func40, Tryz.ntmps40
      go_wp2_with fail
      refine power_i (by omega) h2 hn0 (by omega) ?_
      go_wp2_with fail
      refine boolq' H.out ?_
      rw [decide_eq_true ⟨h1, h2⟩, Bool.true_and]
    · have hf : Hid ((decide (1 ≤ k ∧ k ≤ 4) && decide (Nums.pw k n ≤ 1024)) = false) := Lib.hid (by rw [decide_eq_false (by omega)]; rfl)
      go_enter Tryz.func40, Tryz.ntmps40
      go_wp2_with fail
      exact boolq' H.out hf.out
  · have hf : Hid ((decide (1 ≤ k ∧ k ≤ 4) && decide (Nums.pw k n ≤ 1024)) = false) := Lib.hid (by rw [decide_eq_false (by omega)]; rfl)
    go_enter Tryz.func40, Tryz.ntmps40
    go_wp2_with fail
    exact boolq' H.out hf.out
end Go.Proofs.YtdjdagcgodpgdaaGreat
