/-
  As many necklaces as the formula counts: a finite check.
-/
import Derived.Test.YtmlmpneikhdgcaaGrowP
import Derived.Test.YtmlmpneikhdgcaaNums
set_option linter.unusedVariables false
namespace Go.Proofs.Ytmlmpneikhdgcaa.Words
set_option maxRecDepth 100000

theorem necks_count0 : ∀ n ∈ List.range 11, ∀ k ∈ List.range 5, 1 ≤ n → 1 ≤ k → k ^ n ≤ 1024 → (((Perms.wordsN k n).filter neckP).length : Int) = Nums.neck (n : Int) (k : Int) := by decide +kernel
theorem necks_count {n : Nat} {k : Int} (hn : 1 ≤ n) (hn2 : n ≤ 10) (hk : 1 ≤ k) (hk2 : k ≤ 4) (hp : k.toNat ^ n ≤ 1024) : (((Perms.wordsN k.toNat n).filter neckP).length : Int) = Nums.neck (n : Int) k := by
  have h := necks_count0 n (List.mem_range.2 (by omega)) k.toNat (List.mem_range.2 (by omega)) hn (by omega) hp
  rwa [show ((k.toNat : Nat) : Int) = k from by omega] at h
end Go.Proofs.Ytmlmpneikhdgcaa.Words
