/-
  All words of two letters, up to ten of them: what their least rotations and periods are. A finite check.
-/
import Derived.Test.YtmlmpneikhdgcaaAxes
import Derived.Test.YtmlmpneikhdgcaaWordsN
set_option linter.unusedVariables false
namespace Go.Proofs.Ytmlmpneikhdgcaa.Words
set_option maxRecDepth 100000

def rotChk (w : List Int) : Bool :=
  rotOk w (lrI w) && decide (lrW w = rotW w (lrI w)) && decide (1 ≤ perI w) && decide ((w.length : Int) % perI w = 0) && decide (((rootW w).length : Int) = perI w) && decide (rootN w * perI w = w.length) && decide (perI (rootW w) = perI w) &&
    ((List.range w.length).all fun (i : Nat) => decide (w[i]? = (rootW w)[(i : Int).toNat % (perI w).toNat]?) && !decide (cmpL (rot w i) (lrW w) < 0)) &&
    decide ((((List.range w.length).filter fun (i : Nat) => decide (rot w i = w)).length : Int) * perI w = w.length)
set_option maxHeartbeats 100000000 in
theorem rot_all8 : ∀ n ∈ List.range 8, (Perms.wordsN 2 (n + 1)).all rotChk = true := by decide +kernel
set_option maxHeartbeats 100000000 in
theorem rot_all9 : (Perms.wordsN 2 9).all rotChk = true := by decide +kernel
set_option maxHeartbeats 100000000 in
theorem rot_all10 : (Perms.wordsN 2 10).all rotChk = true := by decide +kernel
theorem rot_all {n : Nat} (h1 : 1 ≤ n) (h2 : n ≤ 10) : (Perms.wordsN 2 n).all rotChk = true := by
  obtain h | rfl | rfl : n ≤ 8 ∨ n = 9 ∨ n = 10 := by omega
  · have := rot_all8 (n - 1) (List.mem_range.2 (by omega))
    rwa [show n - 1 + 1 = n from by omega] at this
  · exact rot_all9
  · exact rot_all10
end Go.Proofs.Ytmlmpneikhdgcaa.Words
