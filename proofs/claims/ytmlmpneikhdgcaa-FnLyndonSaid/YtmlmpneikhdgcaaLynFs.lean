/-
  The factors of Lyndon of a word: the longest one first. No program in sight.
-/
import Derived.Test.YtmlmpneikhdgcaaLyn
set_option linter.unusedVariables false
namespace Go.Proofs.Ytmlmpneikhdgcaa.Words

theorem lyn_one {x : Int} (h0 : 0 ≤ x) (h3 : x ≤ 3) : lynB [x] = true := by
  have : x = 0 ∨ x = 1 ∨ x = 2 ∨ x = 3 := by omega
  rcases this with rfl | rfl | rfl | rfl <;> decide
/-- The longest prefix of at most m letters that is of Lyndon. -/
def lenTo (ys : List Int) : Nat → Nat
  | 0 => 1
  | m + 1 => if lynB (ys.take (m + 1)) = true then m + 1 else lenTo ys m
theorem lenTo_pos (ys : List Int) : ∀ m, 1 ≤ lenTo ys m
  | 0 => Nat.le_refl _
  | m + 1 => by
    simp only [lenTo]
    split
    · omega
    · exact lenTo_pos ys m
theorem lenTo_le (ys : List Int) : ∀ m, 1 ≤ m → lenTo ys m ≤ m
  | 0, h => by omega
  | m + 1, h => by
    simp only [lenTo]
    split
    · omega
    · by_cases h0 : m = 0
      · subst h0; simp [lenTo]
      · have := lenTo_le ys m (by omega); omega
def facs : Nat → List Int → List (List Int)
  | 0, _ => []
  | f + 1, ys => if ys = [] then [] else ys.take (lenTo ys ys.length) :: facs f (ys.drop (lenTo ys ys.length))
theorem facs_more : ∀ {f : Nat} {ys : List Int}, ys.length ≤ f → facs (f + 1) ys = facs f ys
  | 0, ys, h => by
    obtain rfl : ys = [] := List.length_eq_zero_iff.1 (by omega)
    simp [facs]
  | f + 1, ys, h => by
    by_cases hy : ys = []
    · subst hy; simp [facs]
    · have hp := lenTo_pos ys ys.length
      have := facs_more (f := f) (ys := ys.drop (lenTo ys ys.length)) (by rw [List.length_drop]; omega)
      rw [facs, if_neg hy, this, facs, if_neg hy]
theorem facs_step {n : Nat} {ys : List Int} (hn : ys.length ≤ n) (hy : ys ≠ []) : facs n ys = ys.take (lenTo ys ys.length) :: facs n (ys.drop (lenTo ys ys.length)) := by
  have h0 : 0 < ys.length := List.length_pos_iff.2 hy
  obtain ⟨m, rfl⟩ : ∃ m, n = m + 1 := ⟨n - 1, by omega⟩
  have hp := lenTo_pos ys ys.length
  rw [facs_more (f := m) (ys := ys.drop (lenTo ys ys.length)) (by rw [List.length_drop]; omega)]
  conv => lhs; rw [facs, if_neg hy]
theorem facs_nil (n : Nat) : facs n [] = [] := by cases n <;> simp [facs]
def facW (xs : List Int) : List (List Int) := if okW xs = true then facs xs.length xs else []
theorem okW_tail {xs : List Int} (h : okW xs = true) {k : Nat} (hk : k < xs.length) : ∃ x, (xs.drop k).take 1 = [x] ∧ 0 ≤ x ∧ x ≤ 3 := by
  refine ⟨xs[k], ?_, okW_all h _ (List.getElem_mem hk)⟩
  rw [List.drop_eq_getElem_cons hk, List.take_succ_cons, List.take_zero]
end Go.Proofs.Ytmlmpneikhdgcaa.Words
