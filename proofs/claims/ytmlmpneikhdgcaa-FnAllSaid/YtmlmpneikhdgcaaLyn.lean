/-
  Plain functions on words: least rotations, periods, mirrors. No program in sight.
-/
import Derived.Test.YtmlmpneikhdgcaaWords
set_option linter.unusedVariables false
namespace Go.Proofs.Ytmlmpneikhdgcaa.Words
def rotOk (xs : List Int) (k : Int) : Bool := okW xs && decide (0 ≤ k ∧ k < xs.length)
def rotW (xs : List Int) (k : Int) : List Int := if rotOk xs k = true then rot xs k.toNat else []
/-- The first place of the least rotation among those before j. -/
def lrTo (xs : List Int) : Nat → Nat
  | 0 => 0
  | j + 1 => if less (rot xs j) (rot xs (lrTo xs j)) then j else lrTo xs j
def lrI (xs : List Int) : Int := if okW xs = true then (lrTo xs xs.length : Int) else 0
def lrW (xs : List Int) : List Int := if okW xs = true then rot xs (lrTo xs xs.length) else []
theorem lrTo_le (xs : List Int) : ∀ j, lrTo xs j = 0 ∨ lrTo xs j < j
  | 0 => .inl rfl
  | j + 1 => by
    have := lrTo_le xs j
    simp only [lrTo]
    split <;> omega
theorem less_trans {xs ys zs : List Int} (h1 : xs.length = ys.length) (h2 : ys.length = zs.length) (a : less xs ys = true) (b : less ys zs = true) : less xs zs = true := by
  rw [less_cmp h1] at a
  rw [less_cmp h2] at b
  rw [less_cmp (h1.trans h2)]
  simp only [decide_eq_true_eq] at a b ⊢
  exact cmpL_trans a b
theorem less_irr (xs : List Int) : less xs xs = false := by rw [less_cmp rfl, cmpL_self]; rfl
/-- The least rotation is the word itself only at place 0. -/
theorem lrTo_zero (xs : List Int) : ∀ j, j ≤ xs.length → lrTo xs j = 0 ∨ less (rot xs (lrTo xs j)) xs = true
  | 0, _ => .inl rfl
  | j + 1, hj => by
    have ih := lrTo_zero xs j (by omega)
    have hl := lrTo_le xs j
    simp only [lrTo]
    cases hc : less (rot xs j) (rot xs (lrTo xs j)) with
    | false => simpa using ih
    | true =>
      simp only [if_true]
      by_cases h0 : j = 0
      · exact .inl h0
      · right
        rcases ih with h | h
        · rw [h, rot_zero] at hc; exact hc
        · exact less_trans (by rw [rot_len _ (by omega), rot_len _ (by omega)]) (rot_len _ (by omega)) hc h
theorem lrW_len {xs : List Int} (h : okW xs = true) : (lrW xs).length = xs.length := by
  unfold lrW; rw [if_pos h, rot_len _ (by have := lrTo_le xs xs.length; omega)]
/-- The least k from a number on for which the word is its first k letters again and again. -/
def perFrom (xs : List Int) : Nat → Nat → Nat
  | 0, _ => xs.length
  | g + 1, k => if xs.length % k = 0 ∧ rot xs k = xs then k else perFrom xs g (k + 1)
def period (xs : List Int) : Nat := perFrom xs (xs.length - 1) 1
def perI (xs : List Int) : Int := if okW xs = true then (period xs : Int) else 0
def mirW (xs : List Int) : List Int := if okW xs = true then xs.reverse else []
def neckB (xs : List Int) : Bool := okW xs && decide (lrW xs = xs)
def lynB (xs : List Int) : Bool := neckB xs && decide (perI xs = xs.length)
def brW (xs : List Int) : List Int := if okW xs = true then (if less (lrW xs.reverse) (lrW xs) = true then lrW xs.reverse else lrW xs) else []
def brB (xs : List Int) : Bool := okW xs && decide (brW xs = xs)
def mirB (xs : List Int) : Bool := okW xs && decide (lrW xs = lrW xs.reverse)
theorem neckB_zero {xs : List Int} (h : okW xs = true) : neckB xs = (lrI xs == 0) := by
  have hz := lrTo_zero xs xs.length (Nat.le_refl _)
  simp only [neckB, lrI, lrW, h, Bool.true_and, if_true]
  rw [Bool.eq_iff_iff]
  simp only [decide_eq_true_eq, beq_iff_eq]
  constructor
  · intro e
    rcases hz with hz | hz
    · rw [hz]; rfl
    · rw [e, less_irr] at hz; cases hz
  · intro e
    have e' : lrTo xs xs.length = 0 := by omega
    rw [e', rot_zero]
theorem okW_reverse (xs : List Int) : okW xs.reverse = okW xs := by
  unfold okW; rw [List.length_reverse, List.all_reverse]
theorem rotW_le (xs : List Int) (k : Int) : (rotW xs k).length ≤ xs.length := by
  unfold rotW
  split
  · rename_i h
    simp only [rotOk, Bool.and_eq_true, decide_eq_true_eq] at h
    rw [rot_len _ (by omega)]; omega
  · simp
theorem mirW_le (xs : List Int) : (mirW xs).length ≤ xs.length := by
  unfold mirW
  split <;> simp
theorem lrW_le (xs : List Int) : (lrW xs).length ≤ xs.length := by
  unfold lrW
  split
  · rw [rot_len _ (by have := lrTo_le xs xs.length; omega)]; omega
  · simp
theorem brW_le (xs : List Int) : (brW xs).length ≤ xs.length := by
  have h := lrW_le xs.reverse
  rw [List.length_reverse] at h
  unfold brW
  split
  · split
    · exact h
    · exact lrW_le xs
  · simp
end Go.Proofs.Ytmlmpneikhdgcaa.Words
