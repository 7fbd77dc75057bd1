/-
  What the program's functions on integers compute: each function's contract, whatever follows the call (Q).
-/
import Derived.Test.YtnghikcmdihagaaRows
import Derived.Test.YtnghikcmdihagaaNums
import Derived.Test.YtnghikcmdihagaaDrawn
import Derived.WalkKit
import Derived.WalkSpells
import Derived.WalkLawsBesides
import Derived.Deep.LoopGhost
import Derived.Lib.Hide
import Derived.Deep.QuietTactic
import Derived.BigQuiet
namespace Go.Proofs.Ytnghikcmdihagaa
open Go.RowKit

theorem boolq {Q : Ending → World → Prop} {b b' : Bool} {w : World} (h : Q (.returned (.bool b)) w) (e : b = true ↔ b' = true) : Q (.returned (.bool b')) w := by
  rw [← Bool.eq_iff_iff.2 e]; exact h
theorem intq {Q : Ending → World → Prop} {n n' : Int} {k : IntKind} {w : World} (h : Q (.returned (.int k n)) w) (e : n = n') : Q (.returned (.int k n')) w := by
  rw [← e]; exact h

set_option maxHeartbeats 400000 in
theorem l01In_c {n lo hi : Int} {w : World} {Q : Ending → World → Prop} (hQ : Q (.returned (.bool (decide (lo ≤ n ∧ n ≤ hi)))) w) :
    Calls Try.prog 47 #[.int .i64 n, .int .i64 lo, .int .i64 hi] w Q := by
  have H := Lib.hid hQ; clear hQ
  go_enter Try.func47, Try.ntmps47
  go_wp2
  all_goals (refine boolq H.out ?_; simp; omega)

end Go.Proofs.Ytnghikcmdihagaa
