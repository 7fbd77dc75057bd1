/-
  The word of all words: the words of Lyndon of the divisors, in order. No program in sight.
-/
import Derived.Test.YtmlmpneikhdgcaaEnum0
import Derived.Test.YtmlmpneikhdgcaaSortR
set_option linter.unusedVariables false
namespace Go.Proofs.Ytmlmpneikhdgcaa.Words

/-- The words of Lyndon of d letters, over the divisors d of n up to j. -/
def allTo (k n : Int) : Nat → List (List Int)
  | 0 => []
  | j + 1 => allTo k n j ++ (if n % ((j : Int) + 1) = 0 then enumO lynB ((j : Int) + 1) k else [])
def ins (l : List (List Int)) (x : List Int) : List (List Int) := l.takeWhile (fun y => decide (cmpL y x < 0)) ++ x :: l.dropWhile (fun y => decide (cmpL y x < 0))
def isort (l : List (List Int)) : List (List Int) := l.foldl ins []
theorem isort_snoc (l : List (List Int)) (x : List Int) : isort (l ++ [x]) = ins (isort l) x := by unfold isort; rw [List.foldl_append]; rfl
theorem isort_take {l : List (List Int)} {j : Nat} {x : List Int} (a : List (List Int)) (h : l[j]? = some x) : isort (a ++ l.take (j + 1)) = ins (isort (a ++ l.take j)) x := by
  rw [List.take_add_one, h, ← isort_snoc, List.append_assoc]; rfl
theorem ins_perm (l : List (List Int)) (x : List Int) : (ins l x).Perm (x :: l) := by
  unfold ins
  have h := List.perm_middle (a := x) (l₁ := l.takeWhile fun y => decide (cmpL y x < 0)) (l₂ := l.dropWhile fun y => decide (cmpL y x < 0))
  rw [List.takeWhile_append_dropWhile] at h
  exact h
theorem isort_perm0 : ∀ (l a : List (List Int)), (l.foldl ins a).Perm (a ++ l)
  | [], a => by simp
  | x :: l, a => by
    have h := isort_perm0 l (ins a x)
    refine h.trans ?_
    refine ((ins_perm a x).append_right l).trans ?_
    exact (List.perm_middle).symm
theorem isort_perm (l : List (List Int)) : (isort l).Perm l := by
  have := isort_perm0 l []
  rw [List.nil_append] at this
  exact this
theorem isort_len (l : List (List Int)) : (isort l).length = l.length := (isort_perm l).length_eq
theorem not_lt_trans {x y z : List Int} (h1 : ¬ cmpL x y < 0) (h2 : ¬ cmpL y z < 0) : ¬ cmpL x z < 0 := by
  intro h3
  by_cases e : cmpL x y = 0
  · rw [cmpL_eq e] at h3
    exact h2 h3
  · have h4 : cmpL y x < 0 := by rw [cmpL_neg]; omega
    exact h2 (cmpL_trans h4 h3)
theorem ins_sorted {l : List (List Int)} {x : List Int} (h : Sorted l) : Sorted (ins l x) := by
  unfold ins Sorted at *
  have h0 : (l.takeWhile (fun y => decide (cmpL y x < 0)) ++ l.dropWhile (fun y => decide (cmpL y x < 0))).Pairwise fun a b => ¬ cmpL b a < 0 := by rw [List.takeWhile_append_dropWhile]; exact h
  rw [List.pairwise_append] at h0
  obtain ⟨h1, h2, h3⟩ := h0
  have htw : ∀ y ∈ l.takeWhile (fun y => decide (cmpL y x < 0)), cmpL y x < 0 := fun y hy => of_decide_eq_true (List.all_eq_true.1 List.all_takeWhile y hy)
  have hdw : ∀ y ∈ l.dropWhile (fun y => decide (cmpL y x < 0)), ¬ cmpL y x < 0 := by
    cases hd : l.dropWhile (fun y => decide (cmpL y x < 0)) with
    | nil => intro y hy; cases hy
    | cons z zs =>
      have hz : ¬ cmpL z x < 0 := by
        have hne : l.dropWhile (fun y => decide (cmpL y x < 0)) ≠ [] := by rw [hd]; simp
        have := List.head_dropWhile_not (fun y => decide (cmpL y x < 0)) hne
        simp [hd] at this
        omega
      rw [hd, List.pairwise_cons] at h2
      intro y hy
      rcases List.mem_cons.1 hy with rfl | hy
      · exact hz
      · exact not_lt_trans (h2.1 y hy) hz
  rw [List.pairwise_append, List.pairwise_cons]
  refine ⟨h1, ⟨hdw, h2⟩, fun a ha b hb => ?_⟩
  rcases List.mem_cons.1 hb with rfl | hb
  · have := htw a ha
    rw [cmpL_neg]; omega
  · exact h3 a ha b hb
theorem isort_sorted0 : ∀ (l a : List (List Int)), Sorted a → Sorted (l.foldl ins a)
  | [], a, h => h
  | x :: l, a, h => isort_sorted0 l (ins a x) (ins_sorted h)
theorem isort_sorted (l : List (List Int)) : Sorted (isort l) := isort_sorted0 l [] List.Pairwise.nil
/-- Where the first element stands that is not less. -/
theorem ins_at {l : List (List Int)} {x : List Int} {i : Nat} (hi : i ≤ l.length) (h1 : ∀ (t : Nat) y, t < i → l[t]? = some y → cmpL y x < 0) (h2 : ∀ y, l[i]? = some y → ¬ cmpL y x < 0) : ins l x = l.take i ++ x :: l.drop i := by
  have e : l.takeWhile (fun y => decide (cmpL y x < 0)) = l.take i := by
    conv => lhs; rw [← List.take_append_drop i l]
    rw [List.takeWhile_append_of_pos]
    · cases hd : l.drop i with
      | nil => simp
      | cons z zs =>
        have hz := h2 z (by have := congrArg List.head? hd; rw [List.head?_drop] at this; exact this)
        simp [hz]
    · intro y hy
      obtain ⟨t, ht⟩ := List.getElem?_of_mem hy
      rw [List.getElem?_take] at ht
      split at ht
      · rename_i h
        exact decide_eq_true (h1 t y h ht)
      · cases ht
  unfold ins
  have e2 : l.dropWhile (fun y => decide (cmpL y x < 0)) = l.drop i := by
    have h := List.takeWhile_append_dropWhile (p := fun y => decide (cmpL y x < 0)) (l := l)
    rw [e] at h
    have h3 : l.take i ++ l.dropWhile (fun y => decide (cmpL y x < 0)) = l.take i ++ l.drop i := by rw [h, List.take_append_drop]
    exact List.append_cancel_left h3
  rw [e, e2]
def wallW (n k : Int) : List Int := if smallN n k = true then (isort (allTo k n n.toNat)).flatten else []
theorem allTo_mem {k n : Int} : ∀ {j : Nat} {x : List Int}, x ∈ allTo k n j → x.length ≤ 10
  | 0, x, h => by cases h
  | j + 1, x, h => by
    simp only [allTo] at h
    rcases List.mem_append.1 h with h | h
    · exact allTo_mem h
    · split at h
      · unfold enumO at h
        split at h
        · rename_i hs
          unfold smallN at hs
          simp only [Bool.and_eq_true, decide_eq_true_eq] at hs
          have := (Perms.wordsN_mem.1 (List.mem_filter.1 h).1).1
          omega
        · cases h
      · cases h
theorem enumO_le (P : List Int → Bool) (n k : Int) : (enumO P n k).length ≤ 1024 := by
  unfold enumO
  split
  · rename_i hs
    unfold smallN at hs
    simp only [Bool.and_eq_true, decide_eq_true_eq] at hs
    obtain ⟨⟨hn1, hn2⟩, ⟨hk1, hk4⟩, hpw⟩ := hs
    obtain ⟨m, rfl⟩ : ∃ m : Nat, n = m := ⟨n.toNat, by omega⟩
    rw [pw_pow (by omega)] at hpw
    rw [Int.toNat_natCast]
    unfold enumW
    have h1 := List.length_filter_le P (Perms.wordsN k.toNat m)
    rw [Perms.wordsN_len] at h1
    omega
  · simp
theorem allTo_len (k n : Int) : ∀ j : Nat, (allTo k n j).length ≤ 1024 * j
  | 0 => by simp [allTo]
  | j + 1 => by
    have := allTo_len k n j
    have := enumO_le lynB ((j : Int) + 1) k
    simp only [allTo, List.length_append]
    split <;> simp <;> omega
theorem flat_le {n : Nat} : ∀ {l : List (List Int)}, (∀ x ∈ l, x.length ≤ n) → l.flatten.length ≤ l.length * n
  | [], _ => by simp
  | x :: l, h => by
    have h1 := flat_le (l := l) (n := n) fun q hq => h q (List.mem_cons_of_mem _ hq)
    have h2 := h x (List.mem_cons_self ..)
    simp only [List.flatten_cons, List.length_append, List.length_cons, Nat.add_mul, Nat.one_mul]
    omega
theorem wallW_len (n k : Int) : (wallW n k).length ≤ 1048576 := by
  unfold wallW
  split
  · rename_i hs
    unfold smallN at hs
    simp only [Bool.and_eq_true, decide_eq_true_eq] at hs
    have h1 := flat_le (l := isort (allTo k n n.toNat)) (n := 10) fun x hx => allTo_mem ((isort_perm _).mem_iff.1 hx)
    rw [isort_len] at h1
    have h2 := allTo_len k n n.toNat
    have h3 : (allTo k n n.toNat).length * 10 ≤ 1024 * 10 * 10 := Nat.mul_le_mul_right 10 (by omega)
    omega
  · simp
/-- A single letter is a word of Lyndon. -/
theorem allTo_pos {k n : Int} (hk1 : 1 ≤ k) (hk4 : k ≤ 4) : ∀ {j : Nat}, 1 ≤ j → ([0] : List Int) ∈ allTo k n j
  | 0, h => by omega
  | j + 1, _ => by
    simp only [allTo]
    by_cases hj : j = 0
    · subst hj
      refine List.mem_append.2 (.inr ?_)
      rw [if_pos (by simp)]
      unfold enumO
      have hs : smallN ((0 : Nat) + 1 : Int) k = true := by
        unfold smallN
        have : Nums.pw k ((0 : Nat) + 1 : Int) = k := by simp [Nums.pw, Nums.powTo]
        rw [this]
        simp
        omega
      rw [if_pos hs]
      refine List.mem_filter.2 ⟨Perms.wordsN_mem.2 ⟨by simp, fun x hx => by simp at hx; omega⟩, by decide⟩
    · exact List.mem_append.2 (.inl (allTo_pos hk1 hk4 (by omega)))
end Go.Proofs.Ytmlmpneikhdgcaa.Words
