/-
  Plain functions on words: no program in sight.
-/
set_option linter.unusedVariables false
namespace Go.Proofs.YtdjdagcgodpgdaaGreat.Words
/-- The first m letters of ys are those of xs from j on, around its end. -/
def matchTo (xs ys : List Int) (j : Nat) : Nat → Bool
  | 0 => true
  | m + 1 => matchTo xs ys j m && xs[(j + m) % xs.length]? == ys[m]?
def plcFrom (xs ys : List Int) : Nat → Nat → Int
  | 0, _ => -1
  | g + 1, j => if matchTo xs ys j ys.length then j else plcFrom xs ys g (j + 1)
def placeOf (xs ys : List Int) : Int := if ys.length = 0 then -1 else plcFrom xs ys xs.length 0
theorem matchTo_false {xs ys : List Int} {j m : Nat} (h : matchTo xs ys j m = false) : ∀ n, m ≤ n → matchTo xs ys j n = false := by
  intro n hn
  induction n with
  | zero =>
    obtain rfl : m = 0 := by omega
    exact h
  | succ n ih =>
    by_cases e : m = n + 1
    · subst e; exact h
    · simp only [matchTo, ih (by omega), Bool.false_and]
theorem drop_end {xs : List Int} {j : Nat} (h : xs.length ≤ j) : xs.drop j = [] := List.drop_eq_nil_of_le h
/-- Lexicographic order of two lists of one length. -/
def less : List Int → List Int → Bool
  | x :: xs, y :: ys => if x ≠ y then decide (x < y) else less xs ys
  | _, _ => false
/-- Lexicographic comparison. -/
def cmpL : List Int → List Int → Int
  | [], [] => 0
  | [], _ :: _ => -1
  | _ :: _, [] => 1
  | x :: xs, y :: ys => if x < y then -1 else if y < x then 1 else cmpL xs ys
theorem less_drop {xs ys : List Int} {j : Nat} {x y : Int} (hx : xs[j]? = some x) (hy : ys[j]? = some y) :
    less (xs.drop j) (ys.drop j) = if x ≠ y then decide (x < y) else less (xs.drop (j + 1)) (ys.drop (j + 1)) := by
  obtain ⟨h1, rfl⟩ := List.getElem?_eq_some_iff.1 hx
  obtain ⟨h2, rfl⟩ := List.getElem?_eq_some_iff.1 hy
  rw [List.drop_eq_getElem_cons h1, List.drop_eq_getElem_cons h2]
  rfl
theorem cmpL_drop {xs ys : List Int} {j : Nat} {x y : Int} (hx : xs[j]? = some x) (hy : ys[j]? = some y) :
    cmpL (xs.drop j) (ys.drop j) = if x < y then -1 else if y < x then 1 else cmpL (xs.drop (j + 1)) (ys.drop (j + 1)) := by
  obtain ⟨h1, rfl⟩ := List.getElem?_eq_some_iff.1 hx
  obtain ⟨h2, rfl⟩ := List.getElem?_eq_some_iff.1 hy
  rw [List.drop_eq_getElem_cons h1, List.drop_eq_getElem_cons h2]
  rfl
theorem less_cmp : ∀ {xs ys : List Int}, xs.length = ys.length → less xs ys = decide (cmpL xs ys < 0)
  | [], [], _ => rfl
  | [], _ :: _, h => by simp at h
  | _ :: _, [], h => by simp at h
  | x :: xs, y :: ys, h => by
    simp only [less, cmpL]
    by_cases e : x = y
    · subst e
      simp only [ne_eq, not_true_eq_false, if_false, Int.lt_irrefl]
      exact less_cmp (by simpa using h)
    · rw [if_pos e]
      by_cases l : x < y
      · simp [l]
      · have g : y < x := by omega
        simp [l, g]
theorem less_neg {xs ys : List Int} (h : xs.length = ys.length) : less xs ys = true ↔ cmpL xs ys < 0 := by rw [less_cmp h, decide_eq_true_eq]
theorem cmpL_self : ∀ xs : List Int, cmpL xs xs = 0
  | [] => rfl
  | x :: xs => by simp only [cmpL, Int.lt_irrefl, if_false]; exact cmpL_self xs
theorem cmpL_eq : ∀ {xs ys : List Int}, cmpL xs ys = 0 → xs = ys
  | [], [], _ => rfl
  | [], _ :: _, h => by simp [cmpL] at h
  | _ :: _, [], h => by simp [cmpL] at h
  | x :: xs, y :: ys, h => by
    simp only [cmpL] at h
    split at h
    · simp at h
    · split at h
      · simp at h
      · rw [show x = y by omega, cmpL_eq h]
theorem cmpL_neg : ∀ xs ys : List Int, cmpL ys xs = -cmpL xs ys
  | [], [] => rfl
  | [], _ :: _ => rfl
  | _ :: _, [] => rfl
  | x :: xs, y :: ys => by
    simp only [cmpL]
    have := cmpL_neg xs ys
    by_cases l : x < y
    · rw [if_neg (by omega), if_pos l, if_pos l]; rfl
    · by_cases g : y < x
      · rw [if_pos g, if_neg l, if_pos g]
      · rw [if_neg g, if_neg l, if_neg l, if_neg g]; exact this
theorem cmpL_trans : ∀ {xs ys zs : List Int}, cmpL xs ys < 0 → cmpL ys zs < 0 → cmpL xs zs < 0
  | [], [], _, h, _ => by simp [cmpL] at h
  | [], _ :: _, [], _, k => by simp [cmpL] at k
  | [], _ :: _, _ :: _, _, _ => by simp [cmpL]
  | _ :: _, [], _, h, _ => by simp [cmpL] at h
  | _ :: _, _ :: _, [], _, k => by simp [cmpL] at k
  | x :: xs, y :: ys, z :: zs, h, k => by
    simp only [cmpL] at h k ⊢
    by_cases h1 : x < y
    · by_cases k1 : y < z
      · rw [if_pos (by omega)]; omega
      · rw [if_neg k1] at k
        split at k
        · omega
        · rw [if_pos (by omega)]; omega
    · rw [if_neg h1] at h
      split at h
      · omega
      · by_cases k1 : y < z
        · rw [if_pos (by omega)]; omega
        · rw [if_neg k1] at k
          split at k
          · omega
          · rw [if_neg (by omega), if_neg (by omega)]
            exact cmpL_trans h k
theorem cmpL_abs : ∀ xs ys : List Int, cmpL xs ys = -1 ∨ cmpL xs ys = 0 ∨ cmpL xs ys = 1
  | [], [] => by simp [cmpL]
  | [], _ :: _ => by simp [cmpL]
  | _ :: _, [] => by simp [cmpL]
  | x :: xs, y :: ys => by
    simp only [cmpL]
    split
    · simp
    · split
      · simp
      · exact cmpL_abs xs ys
def rot (xs : List Int) (k : Nat) : List Int := xs.drop k ++ xs.take k
def okC (x : Int) : Bool := decide (0 ≤ x) && decide (x ≤ 3)
/-- A word: one to ten colors from 0 to 3. -/
def okW (xs : List Int) : Bool := decide (1 ≤ xs.length ∧ xs.length ≤ 10) && xs.all okC
theorem okW_bad {xs : List Int} {j : Nat} {x : Int} (hx : xs[j]? = some x) (h : ¬ (0 ≤ x ∧ x ≤ 3)) : okW xs = false := by
  unfold okW
  rw [Bool.and_eq_false_iff]
  right
  rw [List.all_eq_false]
  refine ⟨x, List.mem_of_getElem? hx, ?_⟩
  simp only [okC, Bool.and_eq_true, decide_eq_true_eq]
  exact h
theorem okW_len {xs : List Int} (h : okW xs = true) : 1 ≤ xs.length ∧ xs.length ≤ 10 := by
  simp only [okW, Bool.and_eq_true, decide_eq_true_eq] at h
  exact h.1
theorem okW_all {xs : List Int} (h : okW xs = true) : ∀ x ∈ xs, 0 ≤ x ∧ x ≤ 3 := by
  simp only [okW, Bool.and_eq_true, decide_eq_true_eq, List.all_eq_true, okC] at h
  exact h.2
theorem okW_mk {xs : List Int} (h1 : 1 ≤ xs.length) (h2 : xs.length ≤ 10) (h3 : ∀ x ∈ xs, 0 ≤ x ∧ x ≤ 3) : okW xs = true := by
  simp only [okW, Bool.and_eq_true, decide_eq_true_eq, List.all_eq_true, okC]
  exact ⟨⟨h1, h2⟩, h3⟩
theorem rot_len (xs : List Int) {k : Nat} (hk : k ≤ xs.length) : (rot xs k).length = xs.length := by
  unfold rot; rw [List.length_append, List.length_drop, List.length_take]; omega
theorem rot_zero (xs : List Int) : rot xs 0 = xs := by simp [rot]
end Go.Proofs.YtdjdagcgodpgdaaGreat.Words
