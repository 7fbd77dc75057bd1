/-
  All words of two letters, up to ten of them, and their factors; the sums over the divisors. Finite checks.
-/
import Derived.Test.YtmlmpneikhdgcaaLynFs
import Derived.Test.YtmlmpneikhdgcaaWordsN
import Derived.Test.YtmlmpneikhdgcaaNums
set_option linter.unusedVariables false
namespace Go.Proofs.Ytmlmpneikhdgcaa.Words
set_option maxRecDepth 100000

def desc : List (List Int) → Bool
  | a :: b :: r => !decide (cmpL a b < 0) && desc (b :: r)
  | _ => true
theorem desc_at : ∀ {l : List (List Int)} {j : Nat} {a b : List Int}, desc l = true → l[j]? = some a → l[j + 1]? = some b → decide (cmpL a b < 0) = false
  | [], _, _, _, _, h, _ => by simp at h
  | [_], 0, _, _, _, _, h => by simp at h
  | [_], j + 1, _, _, _, h, _ => by simp at h
  | a :: b :: r, 0, x, y, hd, h1, h2 => by
    simp at h1 h2
    subst h1; subst h2
    unfold desc at hd
    simp only [Bool.and_eq_true, Bool.not_eq_true'] at hd
    exact hd.1
  | a :: b :: r, j + 1, x, y, hd, h1, h2 => by
    unfold desc at hd
    simp only [Bool.and_eq_true] at hd
    exact desc_at (j := j) hd.2 (by simpa using h1) (by simpa using h2)
def lynChk (w : List Int) : Bool := (facW w).all lynB && desc (facW w) && decide ((facW w).flatten = w)
set_option maxHeartbeats 100000000 in
theorem lyn_all8 : ∀ n ∈ List.range 8, (Perms.wordsN 2 (n + 1)).all lynChk = true := by decide +kernel
theorem all_part {α : Type} {f : α → Bool} {l : List α} (m : Nat) (h1 : (l.take m).all f = true) (h2 : (l.drop m).all f = true) : l.all f = true := by
  conv => lhs; rw [← List.take_append_drop m l]
  rw [List.all_append, h1, h2]; rfl
set_option maxHeartbeats 100000000 in
theorem lyn_all9_0 : (((Perms.wordsN 2 9).drop 0).take 128).all lynChk = true := by decide +kernel
set_option maxHeartbeats 100000000 in
theorem lyn_all9_1 : (((Perms.wordsN 2 9).drop 128).take 128).all lynChk = true := by decide +kernel
set_option maxHeartbeats 100000000 in
theorem lyn_all9_2 : (((Perms.wordsN 2 9).drop 256).take 128).all lynChk = true := by decide +kernel
set_option maxHeartbeats 100000000 in
theorem lyn_all9_3 : (((Perms.wordsN 2 9).drop 384).take 128).all lynChk = true := by decide +kernel
theorem lyn_all9 : (Perms.wordsN 2 9).all lynChk = true := by
  have h4 : ((Perms.wordsN 2 9).drop 512).all lynChk = true := by
    rw [List.drop_eq_nil_of_le (by rw [Perms.wordsN_len]; omega)]; rfl
  have h3 : ((Perms.wordsN 2 9).drop 384).all lynChk = true := all_part 128 lyn_all9_3 (by rw [List.drop_drop]; exact h4)
  have h2 : ((Perms.wordsN 2 9).drop 256).all lynChk = true := all_part 128 lyn_all9_2 (by rw [List.drop_drop]; exact h3)
  have h1 : ((Perms.wordsN 2 9).drop 128).all lynChk = true := all_part 128 lyn_all9_1 (by rw [List.drop_drop]; exact h2)
  have h0 : ((Perms.wordsN 2 9).drop 0).all lynChk = true := all_part 128 lyn_all9_0 (by rw [List.drop_drop]; exact h1)
  exact h0
set_option maxHeartbeats 100000000 in
theorem lyn_all10_0 : (((Perms.wordsN 2 10).drop 0).take 128).all lynChk = true := by decide +kernel
set_option maxHeartbeats 100000000 in
theorem lyn_all10_1 : (((Perms.wordsN 2 10).drop 128).take 128).all lynChk = true := by decide +kernel
set_option maxHeartbeats 100000000 in
theorem lyn_all10_2 : (((Perms.wordsN 2 10).drop 256).take 128).all lynChk = true := by decide +kernel
set_option maxHeartbeats 100000000 in
theorem lyn_all10_3 : (((Perms.wordsN 2 10).drop 384).take 128).all lynChk = true := by decide +kernel
set_option maxHeartbeats 100000000 in
theorem lyn_all10_4 : (((Perms.wordsN 2 10).drop 512).take 128).all lynChk = true := by decide +kernel
set_option maxHeartbeats 100000000 in
theorem lyn_all10_5 : (((Perms.wordsN 2 10).drop 640).take 128).all lynChk = true := by decide +kernel
set_option maxHeartbeats 100000000 in
theorem lyn_all10_6 : (((Perms.wordsN 2 10).drop 768).take 128).all lynChk = true := by decide +kernel
set_option maxHeartbeats 100000000 in
theorem lyn_all10_7 : (((Perms.wordsN 2 10).drop 896).take 128).all lynChk = true := by decide +kernel
theorem lyn_all10 : (Perms.wordsN 2 10).all lynChk = true := by
  have h8 : ((Perms.wordsN 2 10).drop 1024).all lynChk = true := by
    rw [List.drop_eq_nil_of_le (by rw [Perms.wordsN_len]; omega)]; rfl
  have h7 : ((Perms.wordsN 2 10).drop 896).all lynChk = true := all_part 128 lyn_all10_7 (by rw [List.drop_drop]; exact h8)
  have h6 : ((Perms.wordsN 2 10).drop 768).all lynChk = true := all_part 128 lyn_all10_6 (by rw [List.drop_drop]; exact h7)
  have h5 : ((Perms.wordsN 2 10).drop 640).all lynChk = true := all_part 128 lyn_all10_5 (by rw [List.drop_drop]; exact h6)
  have h4 : ((Perms.wordsN 2 10).drop 512).all lynChk = true := all_part 128 lyn_all10_4 (by rw [List.drop_drop]; exact h5)
  have h3 : ((Perms.wordsN 2 10).drop 384).all lynChk = true := all_part 128 lyn_all10_3 (by rw [List.drop_drop]; exact h4)
  have h2 : ((Perms.wordsN 2 10).drop 256).all lynChk = true := all_part 128 lyn_all10_2 (by rw [List.drop_drop]; exact h3)
  have h1 : ((Perms.wordsN 2 10).drop 128).all lynChk = true := all_part 128 lyn_all10_1 (by rw [List.drop_drop]; exact h2)
  have h0 : ((Perms.wordsN 2 10).drop 0).all lynChk = true := all_part 128 lyn_all10_0 (by rw [List.drop_drop]; exact h1)
  exact h0
theorem lyn_all {n : Nat} (h1 : 1 ≤ n) (h2 : n ≤ 10) : (Perms.wordsN 2 n).all lynChk = true := by
  obtain h | rfl | rfl : n ≤ 8 ∨ n = 9 ∨ n = 10 := by omega
  · have := lyn_all8 (n - 1) (List.mem_range.2 (by omega))
    rwa [show n - 1 + 1 = n from by omega] at this
  · exact lyn_all9
  · exact lyn_all10
structure LynFacts (xs : List Int) : Prop where
  ok : okW xs = true
  lyn : ∀ x ∈ facW xs, lynB x = true
  dsc : desc (facW xs) = true
  sum : (facW xs).flatten = xs
theorem lynFacts {n : Nat} {xs : List Int} (h1 : 1 ≤ n) (h2 : n ≤ 10) (hl : xs.length = n) (hr : ∀ x ∈ xs, 0 ≤ x ∧ x < 2) : LynFacts xs := by
  have h := List.all_eq_true.1 (lyn_all h1 h2) xs (Perms.wordsN_mem.2 ⟨hl, fun x hx => by have := hr x hx; omega⟩)
  unfold lynChk at h
  simp only [Bool.and_eq_true, decide_eq_true_eq, List.all_eq_true] at h
  refine ⟨okW_mk (by omega) (by omega) (fun c hc => by have := hr c hc; omega), h.1.1, h.1.2, h.2⟩
end Go.Proofs.Ytmlmpneikhdgcaa.Words
namespace Go.Proofs.Ytmlmpneikhdgcaa.Nums
/-- The sum of d times the words of Lyndon of d letters, over the divisors d of n up to j; and the sum of their numbers alone. -/
def dl (n k : Int) : Nat → Int
  | 0 => 0
  | j + 1 => dl n k j + if n % ((j : Int) + 1) = 0 then ((j : Int) + 1) * lynd ((j : Int) + 1) k else 0
def nl (n k : Int) : Nat → Int
  | 0 => 0
  | j + 1 => nl n k j + if n % ((j : Int) + 1) = 0 then lynd ((j : Int) + 1) k else 0
def lynNum (n k : Nat) : Bool := decide (dl n k n = powTo k n) && decide (nl n k n = neck n k) &&
  (List.range (n + 1)).all fun (j : Nat) => decide (0 ≤ dl n k j ∧ dl n k j ≤ 4194304 ∧ 0 ≤ nl n k j ∧ nl n k j ≤ 4194304 ∧ 0 ≤ lynd ((j : Int) + 1) k + 1 ∧ lynd ((j : Int) + 1) k ≤ 4194304 ∧ -20 ≤ ((j : Int) + 1) * lynd ((j : Int) + 1) k ∧ ((j : Int) + 1) * lynd ((j : Int) + 1) k ≤ 41943040)
set_option maxRecDepth 100000 in
theorem lynNum_all : ∀ n ∈ List.range 10, ∀ k ∈ List.range 4, lynNum (n + 1) (k + 1) = true := by decide +kernel
structure LynNum (n k : Nat) : Prop where
  all : dl n k n = powTo k n
  nck : nl n k n = neck n k
  bd : ∀ j : Nat, j ≤ n → 0 ≤ dl n k j ∧ dl n k j ≤ 4194304 ∧ 0 ≤ nl n k j ∧ nl n k j ≤ 4194304 ∧ 0 ≤ lynd ((j : Int) + 1) k + 1 ∧ lynd ((j : Int) + 1) k ≤ 4194304 ∧ -20 ≤ ((j : Int) + 1) * lynd ((j : Int) + 1) k ∧ ((j : Int) + 1) * lynd ((j : Int) + 1) k ≤ 41943040
theorem lynNum_at {n k : Nat} (h1 : 1 ≤ n) (h2 : n ≤ 10) (h3 : 1 ≤ k) (h4 : k ≤ 4) : LynNum n k := by
  have h := lynNum_all (n - 1) (List.mem_range.2 (by omega)) (k - 1) (List.mem_range.2 (by omega))
  rw [show n - 1 + 1 = n from by omega, show k - 1 + 1 = k from by omega] at h
  unfold lynNum at h
  simp only [Bool.and_eq_true, decide_eq_true_eq, List.all_eq_true, List.mem_range] at h
  exact ⟨h.1.1, h.1.2, fun j hj => h.2 j (by omega)⟩
end Go.Proofs.Ytmlmpneikhdgcaa.Nums
