/-
  Inserting into an ascending list. No program in sight.
-/
import Derived.Test.YtdjdagcgodpgdaaGreatSortR
set_option linter.unusedVariables false
namespace Go.Proofs.YtdjdagcgodpgdaaGreat.Perms

def ins (l : List (List Int)) (x : List Int) : List (List Int) := l.takeWhile (fun y => decide (Words.cmpL y x < 0)) ++ x :: l.dropWhile (fun y => decide (Words.cmpL y x < 0))
def isort (l : List (List Int)) : List (List Int) := l.foldl ins []
theorem isort_snoc (l : List (List Int)) (x : List Int) : isort (l ++ [x]) = ins (isort l) x := by unfold isort; rw [List.foldl_append]; rfl
theorem isort_take {l : List (List Int)} {j : Nat} {x : List Int} (a : List (List Int)) (h : l[j]? = some x) : isort (a ++ l.take (j + 1)) = ins (isort (a ++ l.take j)) x := by
  rw [List.take_add_one, h, ← isort_snoc, List.append_assoc]; rfl
theorem ins_perm (l : List (List Int)) (x : List Int) : (ins l x).Perm (x :: l) := by
  unfold ins
  have h := List.perm_middle (a := x) (l₁ := l.takeWhile fun y => decide (Words.cmpL y x < 0)) (l₂ := l.dropWhile fun y => decide (Words.cmpL y x < 0))
  rw [List.takeWhile_append_dropWhile] at h
  exact h
theorem isort_perm0 : ∀ (l a : List (List Int)), (l.foldl ins a).Perm (a ++ l)
  | [], a => by simp
  | x :: l, a => by
    have h := isort_perm0 l (ins a x)
    refine h.trans ?_
    refine ((ins_perm a x).append_right l).trans ?_
    exact (List.perm_middle).symm
theorem isort_perm (l : List (List Int)) : (isort l).Perm l := by
  have := isort_perm0 l []
  rw [List.nil_append] at this
  exact this
theorem isort_len (l : List (List Int)) : (isort l).length = l.length := (isort_perm l).length_eq
theorem not_lt_trans {x y z : List Int} (h1 : ¬ Words.cmpL x y < 0) (h2 : ¬ Words.cmpL y z < 0) : ¬ Words.cmpL x z < 0 := by
  intro h3
  by_cases e : Words.cmpL x y = 0
  · rw [Words.cmpL_eq e] at h3
    exact h2 h3
  · have h4 : Words.cmpL y x < 0 := by rw [Words.cmpL_neg]; omega
    exact h2 (Words.cmpL_trans h4 h3)
theorem ins_sorted {l : List (List Int)} {x : List Int} (h : Words.Sorted l) : Words.Sorted (ins l x) := by
  unfold ins Words.Sorted at *
  have h0 : (l.takeWhile (fun y => decide (Words.cmpL y x < 0)) ++ l.dropWhile (fun y => decide (Words.cmpL y x < 0))).Pairwise fun a b => ¬ Words.cmpL b a < 0 := by rw [List.takeWhile_append_dropWhile]; exact h
  rw [List.pairwise_append] at h0
  obtain ⟨h1, h2, h3⟩ := h0
  have htw : ∀ y ∈ l.takeWhile (fun y => decide (Words.cmpL y x < 0)), Words.cmpL y x < 0 := fun y hy => of_decide_eq_true (List.all_eq_true.1 List.all_takeWhile y hy)
  have hdw : ∀ y ∈ l.dropWhile (fun y => decide (Words.cmpL y x < 0)), ¬ Words.cmpL y x < 0 := by
    cases hd : l.dropWhile (fun y => decide (Words.cmpL y x < 0)) with
    | nil => intro y hy; cases hy
    | cons z zs =>
      have hz : ¬ Words.cmpL z x < 0 := by
        have hne : l.dropWhile (fun y => decide (Words.cmpL y x < 0)) ≠ [] := by rw [hd]; simp
        have := List.head_dropWhile_not (fun y => decide (Words.cmpL y x < 0)) hne
        simp [hd] at this
        omega
      rw [hd, List.pairwise_cons] at h2
      intro y hy
      rcases List.mem_cons.1 hy with rfl | hy
      · exact hz
      · exact not_lt_trans (h2.1 y hy) hz
  rw [List.pairwise_append, List.pairwise_cons]
  refine ⟨h1, ⟨hdw, h2⟩, fun a ha b hb => ?_⟩
  rcases List.mem_cons.1 hb with rfl | hb
  · have := htw a ha
    rw [Words.cmpL_neg]; omega
  · exact h3 a ha b hb
theorem isort_sorted0 : ∀ (l a : List (List Int)), Words.Sorted a → Words.Sorted (l.foldl ins a)
  | [], a, h => h
  | x :: l, a, h => isort_sorted0 l (ins a x) (ins_sorted h)
theorem isort_sorted (l : List (List Int)) : Words.Sorted (isort l) := isort_sorted0 l [] List.Pairwise.nil
/-- Where the first element stands that is not less. -/
theorem ins_at {l : List (List Int)} {x : List Int} {i : Nat} (hi : i ≤ l.length) (h1 : ∀ (t : Nat) y, t < i → l[t]? = some y → Words.cmpL y x < 0) (h2 : ∀ y, l[i]? = some y → ¬ Words.cmpL y x < 0) : ins l x = l.take i ++ x :: l.drop i := by
  have e : l.takeWhile (fun y => decide (Words.cmpL y x < 0)) = l.take i := by
    conv => lhs; rw [← List.take_append_drop i l]
    rw [List.takeWhile_append_of_pos]
    · cases hd : l.drop i with
      | nil => simp
      | cons z zs =>
        have hz := h2 z (by have := congrArg List.head? hd; rw [List.head?_drop] at this; exact this)
        simp [hz]
    · intro y hy
      obtain ⟨t, ht⟩ := List.getElem?_of_mem hy
      rw [List.getElem?_take] at ht
      split at ht
      · rename_i h
        exact decide_eq_true (h1 t y h ht)
      · cases ht
  unfold ins
  have e2 : l.dropWhile (fun y => decide (Words.cmpL y x < 0)) = l.drop i := by
    have h := List.takeWhile_append_dropWhile (p := fun y => decide (Words.cmpL y x < 0)) (l := l)
    rw [e] at h
    have h3 : l.take i ++ l.dropWhile (fun y => decide (Words.cmpL y x < 0)) = l.take i ++ l.drop i := by rw [h, List.take_append_drop]
    exact List.append_cancel_left h3
  rw [e, e2]
end Go.Proofs.YtdjdagcgodpgdaaGreat.Perms
