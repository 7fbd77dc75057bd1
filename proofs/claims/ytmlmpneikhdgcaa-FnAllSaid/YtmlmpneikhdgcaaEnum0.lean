/-
  Words of Lyndon and bracelets among all words. No program in sight.
-/
import Derived.Test.YtmlmpneikhdgcaaNum0
import Derived.Test.YtmlmpneikhdgcaaNeckAt
set_option linter.unusedVariables false
namespace Go.Proofs.Ytmlmpneikhdgcaa.Words

def enumW (P : List Int → Bool) (n : Nat) (k : Int) : List (List Int) := (Perms.wordsN k.toNat n).filter P
def enumO (P : List Int → Bool) (n k : Int) : List (List Int) := if smallN n k = true then enumW P n.toNat k else []
theorem words_ok {n : Nat} {k : Int} (hn1 : 1 ≤ n) (hn : n ≤ 10) (hk1 : 1 ≤ k) (hk : k ≤ 4) {x : List Int} (hx : x ∈ Perms.wordsN k.toNat n) : okW x = true := by
  obtain ⟨h1, h2⟩ := Perms.wordsN_mem.1 hx
  exact okW_mk (by omega) (by omega) (fun c hc => by have := h2 c hc; omega)
theorem enum_lyn {n : Nat} {k : Int} (hn1 : 1 ≤ n) (hn : n ≤ 10) (hk1 : 1 ≤ k) (hk : k ≤ 4) : (necks k n).filter (fun xs => !(fun xs => !decide (perI xs = n)) xs) = enumW lynB n k := by
  unfold necks enumW
  rw [List.filter_filter]
  apply List.filter_congr
  intro x hx
  have hok := words_ok hn1 hn hk1 hk hx
  have hl := (Perms.wordsN_mem.1 hx).1
  unfold lynB
  rw [neckB_P hok, hl, Bool.not_not, Bool.and_comm]
theorem brB_neck {x : List Int} (hok : okW x = true) (h : brB x = true) : neckP x = true := by
  unfold brB at h
  rw [hok, Bool.true_and, decide_eq_true_eq] at h
  unfold brW at h
  rw [if_pos hok] at h
  split at h
  · rw [← h]; exact lrW_neck (by rw [okW_reverse]; exact hok)
  · rw [← h]; exact lrW_neck hok
theorem enum_brac {n : Nat} {k : Int} (hn1 : 1 ≤ n) (hn : n ≤ 10) (hk1 : 1 ≤ k) (hk : k ≤ 4) : (necks k n).filter (fun xs => !(fun xs => !brB xs) xs) = enumW brB n k := by
  unfold necks enumW
  rw [List.filter_filter]
  apply List.filter_congr
  intro x hx
  have hok := words_ok hn1 hn hk1 hk hx
  rw [Bool.not_not]
  cases h : brB x with
  | false => rfl
  | true => rw [brB_neck hok h]; rfl
end Go.Proofs.Ytmlmpneikhdgcaa.Words
