/-
  The laws on how many solids there are.
-/
import Derived.Test.YtdjdagcgodpgdaaCntS
set_option linter.unusedVariables false
namespace Go.Proofs.Ytdjdagcgodpgdaa
open Go.RowKit

theorem FnExactCountSolid_l {k : Int} {m : Bool} {c : Int} {w : World} {Q : Ending → World → Prop} (hQ : ∀ w', Below w.heap.size w w' → Q (.returned (.bool true)) w') :
    Calls Try.prog 4 #[.int .i64 k, .bool m, .int .i64 c] w Q := by
  have H := Lib.hid hQ; clear hQ
  go_enter Try.func4, Try.ntmps4
  go_wp2_with fail
  refine CountSolid_s ?_
  intro w1 b1
  go_wp2_with fail
  refine CountSolid_i ?_
  intro w2 b2
  have h3 := Lib.hid (H.out w2 (b1.trans (b2.mono b1.size)))
  go_wp2_with fail
  exact h3.out
theorem FnExactHandedSolids_l {k c : Int} {w : World} {Q : Ending → World → Prop} (hQ : ∀ w', Below w.heap.size w w' → Q (.returned (.bool true)) w') :
    Calls Try.prog 5 #[.int .i64 k, .int .i64 c] w Q := by
  have H := Lib.hid hQ; clear hQ
  go_enter Try.func5, Try.ntmps5
  go_wp2_with fail
  refine HandedSolids_s ?_
  intro w1 b1
  go_wp2_with fail
  refine HandedSolids_i ?_
  intro w2 b2
  have h3 := Lib.hid (H.out w2 (b1.trans (b2.mono b1.size)))
  go_wp2_with fail
  exact h3.out
end Go.Proofs.Ytdjdagcgodpgdaa
