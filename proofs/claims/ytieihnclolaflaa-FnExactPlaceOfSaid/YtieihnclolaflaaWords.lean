/-
  Plain functions on words: no program in sight.
-/
set_option linter.unusedVariables false
namespace Go.Proofs.Ytieihnclolaflaa.Words
/-- The first m letters of ys are those of xs from j on, around its end. -/
def matchTo (xs ys : List Int) (j : Nat) : Nat → Bool
  | 0 => true
  | m + 1 => matchTo xs ys j m && xs[(j + m) % xs.length]? == ys[m]?
def plcFrom (xs ys : List Int) : Nat → Nat → Int
  | 0, _ => -1
  | g + 1, j => if matchTo xs ys j ys.length then j else plcFrom xs ys g (j + 1)
def placeOf (xs ys : List Int) : Int := if ys.length = 0 then -1 else plcFrom xs ys xs.length 0
theorem matchTo_false {xs ys : List Int} {j m : Nat} (h : matchTo xs ys j m = false) : ∀ n, m ≤ n → matchTo xs ys j n = false := by
  intro n hn
  induction n with
  | zero =>
    obtain rfl : m = 0 := by omega
    exact h
  | succ n ih =>
    by_cases e : m = n + 1
    · subst e; exact h
    · simp only [matchTo, ih (by omega), Bool.false_and]
end Go.Proofs.Ytieihnclolaflaa.Words
