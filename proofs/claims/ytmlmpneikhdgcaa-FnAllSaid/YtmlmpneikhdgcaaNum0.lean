/-
  The number of a necklace. No program in sight.
-/
import Derived.Test.YtmlmpneikhdgcaaNeckAt0
set_option linter.unusedVariables false
namespace Go.Proofs.Ytmlmpneikhdgcaa.Words

theorem ext_at {xs ys : List Int} (hl : xs.length = ys.length) (h : ∀ s, s < xs.length → at_ xs s = at_ ys s) : xs = ys := by
  apply List.ext_getElem? 
  intro i
  by_cases hi : i < xs.length
  · rw [at_some hi, at_some (by omega), h i hi]
  · rw [List.getElem?_eq_none (by omega), List.getElem?_eq_none (by omega)]
theorem rot_rot {xs : List Int} {t k : Nat} (ht : t ≤ xs.length) (hk : k ≤ xs.length) : rot (rot xs t) k = rot xs (if t + k < xs.length then t + k else t + k - xs.length) := by
  have l1 := rot_len xs ht
  have hk' : k ≤ (rot xs t).length := by omega
  have l2 := rot_len (rot xs t) hk'
  have hu : (if t + k < xs.length then t + k else t + k - xs.length) ≤ xs.length := by split <;> omega
  have l3 := rot_len xs hu
  apply ext_at (by omega)
  intro s hs
  rw [rot_at hk' (by omega), rot_at hu (by omega), l1]
  by_cases h1 : k + s < xs.length
  · rw [if_pos h1, rot_at ht (by omega)]
    by_cases h2 : t + k < xs.length
    · rw [if_pos h2]
      by_cases h3 : t + (k + s) < xs.length
      · rw [if_pos h3, if_pos (by omega)]; congr 1; omega
      · rw [if_neg h3, if_neg (by omega)]; congr 1; omega
    · rw [if_neg h2]
      rw [if_neg (by omega), if_pos (by omega)]; congr 1; omega
  · rw [if_neg h1, rot_at ht (by omega)]
    by_cases h2 : t + k < xs.length
    · rw [if_pos h2]
      rw [if_pos (by omega), if_neg (by omega)]; congr 1; omega
    · rw [if_neg h2]
      by_cases h3 : t + (k + s - xs.length) < xs.length
      · rw [if_pos h3, if_pos (by omega)]; congr 1; omega
      · rw [if_neg h3, if_neg (by omega)]; congr 1; omega
theorem lrW_neck {xs : List Int} (h : okW xs = true) : neckP (lrW xs) = true := by
  have hl := okW_len h
  have ht := lrTo_le xs xs.length
  have hm := lrTo_min xs xs.length (Nat.le_refl _)
  unfold lrW
  rw [if_pos h, neckP_iff, rot_len _ (by omega)]
  intro k hk hc
  rw [rot_rot (by omega) (by omega)] at hc
  have h2 := hm (if lrTo xs xs.length + k < xs.length then lrTo xs xs.length + k else lrTo xs xs.length + k - xs.length) (by split <;> omega)
  rw [less_cmp (by rw [rot_len _ (by split <;> omega), rot_len _ (by omega)])] at h2
  exact of_decide_eq_false h2 hc
theorem rot_mem {xs : List Int} {k : Nat} {x : Int} (h : x ∈ rot xs k) : x ∈ xs := by
  unfold rot at h
  rcases List.mem_append.1 h with h | h
  · exact List.mem_of_mem_drop h
  · exact List.mem_of_mem_take h
theorem lrW_mem {xs : List Int} {k : Int} (h : nextOk xs k = true) : lrW xs ∈ necksN k.toNat xs.length := by
  obtain ⟨h1, h2, h3, h4, h5⟩ := okW_in h
  have hok : okW xs = true := by unfold nextOk at h; simp only [Bool.and_eq_true] at h; exact h.1
  refine List.mem_filter.2 ⟨Perms.wordsN_mem.2 ⟨lrW_len hok, fun x hx => ?_⟩, lrW_neck hok⟩
  unfold lrW at hx
  rw [if_pos hok] at hx
  exact (Perms.wordsN_mem.1 h5).2 x (rot_mem hx)
def numO (xs : List Int) (k : Int) : Int := if nextOk xs k = true ∧ Nums.pw k xs.length ≤ 1024 then Perms.idx (necksN k.toNat xs.length) (lrW xs) else -1
theorem necksN_asc (k n : Nat) : Perms.Asc (necksN k n) := (Perms.wordsN_asc n).filter _
theorem necksN_len {k n : Nat} (h : k ^ n ≤ 1024) : (necksN k n).length ≤ 1024 := by
  have := List.length_filter_le neckP (Perms.wordsN k n)
  rw [Perms.wordsN_len] at this
  exact Nat.le_trans this h
/-- A necklace lies before another one exactly if its number is less. -/
theorem necksN_less {k n i j : Nat} {x y : List Int} (hi : (necksN k n)[i]? = some x) (hj : (necksN k n)[j]? = some y) : less x y = decide (i < j) := by
  have hx := (necksN_mem (List.mem_of_getElem? hi)).1
  have hy := (necksN_mem (List.mem_of_getElem? hj)).1
  rw [less_cmp (by omega)]
  have hA := necksN_asc k n
  by_cases h : i < j
  · simp [h, hA i j x y h hi hj]
  · simp only [h, decide_false, decide_eq_false_iff_not]
    by_cases e : i = j
    · subst e
      rw [hi] at hj
      cases hj
      rw [cmpL_self]; omega
    · have := hA j i y x (by omega) hj hi
      rw [cmpL_neg]; omega
end Go.Proofs.Ytmlmpneikhdgcaa.Words
