/-
  As many words of Lyndon of two letters as the formula counts. A finite check.
-/
import Derived.Test.YtmlmpneikhdgcaaEnum0
import Derived.Test.YtmlmpneikhdgcaaNums
set_option linter.unusedVariables false
namespace Go.Proofs.Ytmlmpneikhdgcaa.Words
set_option maxRecDepth 100000 in
theorem lynCount0 : ∀ m ∈ List.range 5, ((enumW lynB (m + 1) 2).length : Int) = Nums.lynd ((m : Int) + 1) 2 ∧ Nums.lynd ((m : Int) + 1) 2 ≤ 1000 := by decide +kernel
theorem small2 : ∀ m ∈ List.range 5, smallN ((m : Int) + 1) 2 = true := by decide +kernel
theorem lynCount {m : Nat} (h1 : 1 ≤ m) (h2 : m ≤ 5) : ((enumO lynB m 2).length : Int) = Nums.lynd m 2 ∧ smallN m 2 = true := by
  have a := lynCount0 (m - 1) (List.mem_range.2 (by omega))
  have b := small2 (m - 1) (List.mem_range.2 (by omega))
  rw [show (((m - 1 : Nat) : Int) + 1) = (m : Int) from by omega] at a b
  rw [show m - 1 + 1 = m from by omega] at a
  refine ⟨?_, b⟩
  unfold enumO
  rw [if_pos b, Int.toNat_natCast]
  exact a.1
end Go.Proofs.Ytmlmpneikhdgcaa.Words
