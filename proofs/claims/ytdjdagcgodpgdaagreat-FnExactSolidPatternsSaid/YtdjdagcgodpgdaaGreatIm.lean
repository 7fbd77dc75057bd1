/-
  How many images a coloring has; laws.
-/
import Derived.Test.YtdjdagcgodpgdaaGreatKeep
import Derived.Test.YtdjdagcgodpgdaaGreatOrbit
import Derived.Test.YtdjdagcgodpgdaaGreatLawS
set_option linter.unusedVariables false
namespace Go.Proofs.YtdjdagcgodpgdaaGreat
open Go.RowKit

theorem Perms.sumLen_rows {n : Nat} : ∀ {g : List (List Int)}, (∀ p ∈ g, p.length ≤ n) → sumLen g ≤ g.length * n
  | [], _ => by simp [sumLen]
  | p :: g, h => by
    have := Perms.sumLen_rows (g := g) (n := n) fun q hq => h q (by simp [hq])
    have h1 := h p (by simp)
    simp only [sumLen, List.length_cons, Nat.succ_mul]
    omega
theorem Perms.keepW_sum (g : List (List Int)) (l : List Int) : (Perms.keepW g l).length + sumLen (Perms.keepW g l) ≤ 4611686018427 := by
  unfold Perms.keepW
  split
  · rename_i h
    obtain ⟨h1, h2, h3⟩ := Perms.fitsB_fit h
    have a := Perms.keepTo_len g l g.length
    rw [Perms.keepTo_all g l (Nat.le_refl _)] at a
    have b := Perms.sumLen_rows (n := 10) (g := Perms.keep g l) fun p hp => by
      have := (h1 p (by unfold Perms.keep at hp; exact (List.mem_filter.1 hp).1)).1
      omega
    omega
  · simp [sumLen]
end Go.Proofs.YtdjdagcgodpgdaaGreat
