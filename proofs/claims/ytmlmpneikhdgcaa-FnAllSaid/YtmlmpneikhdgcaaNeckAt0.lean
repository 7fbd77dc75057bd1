/-
  The necklaces one after the other. No program in sight.
-/
import Derived.Test.YtmlmpneikhdgcaaNextS
import Derived.Test.YtmlmpneikhdgcaaNeckN
set_option linter.unusedVariables false
namespace Go.Proofs.Ytmlmpneikhdgcaa.Words

theorem powTo_pow {k : Int} (hk : 0 ≤ k) (m : Nat) : Nums.powTo k m = ((k.toNat ^ m : Nat) : Int) := by
  induction m with
  | zero => rfl
  | succ m ih =>
    show Nums.powTo k m * k = _
    rw [ih, Nat.pow_succ, Int.natCast_mul]
    congr 1
    omega
theorem pw_pow {k : Int} (hk : 0 ≤ k) (m : Nat) : Nums.pw k m = ((k.toNat ^ m : Nat) : Int) := by
  unfold Nums.pw
  rw [Int.toNat_natCast]
  exact powTo_pow hk m
theorem filter_after {α : Type} {P : α → Bool} {W : List α} {i j : Nat} {x : α} (hn : W.Nodup) (hW : W[j]? = some x) (hN : (W.filter P)[i]? = some x) : (W.drop (j + 1)).filter P = (W.filter P).drop (i + 1) := by
  have hPx : P x = true := (List.mem_filter.1 (List.mem_of_getElem? hN)).2
  obtain ⟨h1, h2⟩ := List.getElem?_eq_some_iff.1 hW
  have e : W = W.take j ++ x :: W.drop (j + 1) := by rw [← h2, ← List.drop_eq_getElem_cons h1, List.take_append_drop]
  have e2 : W.filter P = (W.take j).filter P ++ x :: (W.drop (j + 1)).filter P := by
    conv => lhs; rw [e]
    rw [List.filter_append, List.filter_cons, if_pos hPx]
  have hi : i = ((W.take j).filter P).length := by
    refine Perms.nodup_inj (hn.sublist List.filter_sublist) hN ?_
    rw [e2, List.getElem?_append_right (Nat.le_refl _), Nat.sub_self]; rfl
  rw [hi, e2, List.drop_append]
  simp
def necksN (k n : Nat) : List (List Int) := (Perms.wordsN k n).filter neckP
theorem necksN_mem {k n : Nat} {x : List Int} (h : x ∈ necksN k n) : x.length = n ∧ (∀ c ∈ x, 0 ≤ c ∧ c < k) ∧ neckP x = true := by
  obtain ⟨h1, h2⟩ := List.mem_filter.1 h
  obtain ⟨h3, h4⟩ := Perms.wordsN_mem.1 h1
  exact ⟨h3, h4, h2⟩
/-- The necklace behind the i-th is the next one. -/
theorem necksN_next {n i : Nat} {k : Int} {x : List Int} (hn1 : 1 ≤ n) (hn : n ≤ 10) (hk1 : 1 ≤ k) (hk4 : k ≤ 4) (hi : (necksN k.toNat n)[i]? = some x) : nextO x k = (necksN k.toNat n)[i + 1]? := by
  obtain ⟨h1, h2, h3⟩ := necksN_mem (List.mem_of_getElem? hi)
  have hok : nextOk x k = true := by
    unfold nextOk
    rw [okW_mk (by omega) (by omega) (fun c hc => by have := h2 c hc; omega), decide_eq_true ⟨hk1, hk4⟩, Bool.true_and, Bool.true_and, List.all_eq_true]
    intro c hc
    have := h2 c hc
    exact decide_eq_true (by omega)
  obtain ⟨j, hj⟩ := List.getElem?_of_mem (List.mem_filter.1 (List.mem_of_getElem? hi)).1
  unfold nextO
  rw [if_pos hok, h1, vis_from hj, filter_after (Perms.wordsN_asc n).nodup hj hi]
  show ((necksN k.toNat n).drop (i + 1)).head? = _
  rw [List.head?_drop]
theorem neckP_zeros (n : Nat) : neckP (List.replicate n 0) = true := by
  rw [neckP_iff]
  intro k hk hc
  rw [List.length_replicate] at hk
  have e : rot (List.replicate n (0 : Int)) k = List.replicate n 0 := by
    unfold rot
    rw [List.drop_replicate, List.take_replicate, List.replicate_append_replicate]
    congr 1
    omega
  rw [e, cmpL_self] at hc
  omega
theorem necksN_first {k : Nat} (hk : 1 ≤ k) (n : Nat) : (necksN k n)[0]? = some (List.replicate n 0) := by
  have h := Perms.wordsN_first k hk n
  unfold necksN
  cases hw : Perms.wordsN k n with
  | nil => rw [hw] at h; simp at h
  | cons w ws =>
    rw [hw] at h
    simp at h
    subst h
    rw [List.filter_cons, if_pos (neckP_zeros n)]
    rfl
end Go.Proofs.Ytmlmpneikhdgcaa.Words
