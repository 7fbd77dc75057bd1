/-
  All words of two letters, up to ten of them: finite checks.
-/
import Derived.Test.YtmlmpneikhdgcaaAxes
import Derived.Test.YtmlmpneikhdgcaaWordsN
set_option linter.unusedVariables false
namespace Go.Proofs.Ytmlmpneikhdgcaa.Words
set_option maxRecDepth 100000

def axesChk (w : List Int) : Bool := decide (1 ≤ perI w) && (if mirB w = true then decide (((axW w).length : Int) = (w.length : Int) / perI w) else decide ((axW w).length = 0))
set_option maxHeartbeats 100000000 in
theorem axes_all8 : ∀ n ∈ List.range 8, (Perms.wordsN 2 (n + 1)).all axesChk = true := by decide +kernel
set_option maxHeartbeats 100000000 in
theorem axes_all9 : (Perms.wordsN 2 9).all axesChk = true := by decide +kernel
set_option maxHeartbeats 100000000 in
theorem axes_all10 : (Perms.wordsN 2 10).all axesChk = true := by decide +kernel
theorem axes_all {n : Nat} (h1 : 1 ≤ n) (h2 : n ≤ 10) : (Perms.wordsN 2 n).all axesChk = true := by
  obtain h | rfl | rfl : n ≤ 8 ∨ n = 9 ∨ n = 10 := by omega
  · have := axes_all8 (n - 1) (List.mem_range.2 (by omega))
    rwa [show n - 1 + 1 = n from by omega] at this
  · exact axes_all9
  · exact axes_all10
end Go.Proofs.Ytmlmpneikhdgcaa.Words
