/-
  The values of an outer row, where rows may be shared; inserting a row.
-/
import Derived.Test.YtdjdagcgodpgdaaGreatRowx
import Derived.Test.YtdjdagcgodpgdaaGreatSortR
set_option linter.unusedVariables false
namespace Go.Proofs.YtdjdagcgodpgdaaGreat
open Go.RowKit

/-- The values us are slices of integers of the call's own that hold xss. -/
def Vals (w : World) (B : Nat) (us : List Value) (xss : List (List Int)) : Prop :=
  us.length = xss.length ∧ ∀ (k : Nat) (xs : List Int), xss[k]? = some xs → ∃ u, us[k]? = some u ∧ OwnInts w B u xs
theorem Vals.below {w w' : World} {B : Nat} {us : List Value} {xss : List (List Int)} (h : Vals w B us xss) (hb : Below w.heap.size w w') : Vals w' B us xss :=
  ⟨h.1, fun k xs hk => by
    obtain ⟨u, a, b⟩ := h.2 k xs hk
    exact ⟨u, a, OwnInts.below b hb⟩⟩
theorem Vals.drawn {w w' : World} {B : Nat} {us : List Value} {xss : List (List Int)} (h : Vals w B us xss) (hd : Drawn w w') : Vals w' B us xss :=
  ⟨h.1, fun k xs hk => by
    obtain ⟨u, a, b⟩ := h.2 k xs hk
    exact ⟨u, a, OwnInts.drawn b hd⟩⟩
theorem Vals.outer {w w' : World} {B : Nat} {us : List Value} {xss : List (List Int)} (h : Vals w B us xss) {B' : Nat} {v : Value} {zs : List Value} (ho : Own w B' 36 v zs) (hg : w.grownBy w' v.ownBlock) : Vals w' B us xss :=
  ⟨h.1, fun k xs hk => by
    obtain ⟨u, a, b⟩ := h.2 k xs hk
    exact ⟨u, a, Own.grown b hg (own_types ho b (by decide))⟩⟩
theorem Vals.push {w : World} {B : Nat} {us : List Value} {xss : List (List Int)} (h : Vals w B us xss) {u : Value} {xs : List Int} (hu : OwnInts w B u xs) : Vals w B (us ++ [u]) (xss ++ [xs]) := by
  refine ⟨by simp [h.1], fun k zs hk => ?_⟩
  by_cases e : k < xss.length
  · rw [List.getElem?_append_left e] at hk
    obtain ⟨z, a, b⟩ := h.2 k zs hk
    exact ⟨z, by rw [List.getElem?_append_left (by have := h.1; omega)]; exact a, b⟩
  · have hk' := (List.getElem?_eq_some_iff.1 hk).1
    rw [List.length_append, List.length_singleton] at hk'
    obtain rfl : k = xss.length := by omega
    rw [List.getElem?_append_right (Nat.le_refl _), Nat.sub_self] at hk
    simp at hk
    subst hk
    exact ⟨u, by rw [← h.1, List.getElem?_append_right (Nat.le_refl _), Nat.sub_self]; rfl, hu⟩
theorem Vals.ints {w : World} {B : Nat} {us : List Value} {xss : List (List Int)} (h : Vals w B us xss) : ∀ (k : Nat) (xs : List Int), xss[k]? = some xs → ∃ u, us[k]? = some u ∧ IntsAt w u xs := fun k xs hk => by
  obtain ⟨u, a, b⟩ := h.2 k xs hk
  exact ⟨u, a, OwnInts.at b⟩
theorem Vals.at {w : World} {B B' : Nat} {v : Value} {us : List Value} {xss : List (List Int)} (h : Vals w B us xss) (ho : Own w B' 36 v us) : RowsAt w v xss := ⟨us, Own.row ho, h.1, h.ints⟩
theorem Rows.vals {w : World} {B E : Nat} {us : List Value} {xss : List (List Int)} (h : Rows w B E us xss) : Vals w B us xss := ⟨h.1, fun k xs hk => by
  obtain ⟨u, a, b, _⟩ := h.2.1 k xs hk
  exact ⟨u, a, b⟩⟩
theorem Rows.pw {us : List Value} : (∀ (i j : Nat) (u u' : Value), i < j → us[i]? = some u → us[j]? = some u' → apart u u') ↔ us.Pairwise apart := by
  rw [List.pairwise_iff_getElem]
  constructor
  · intro h i j hi hj hij
    exact h i j _ _ hij (List.getElem?_eq_getElem hi) (List.getElem?_eq_getElem hj)
  · intro h i j u u' hij hu hu'
    obtain ⟨h1, rfl⟩ := List.getElem?_eq_some_iff.1 hu
    obtain ⟨h2, rfl⟩ := List.getElem?_eq_some_iff.1 hu'
    exact h i j h1 h2 hij
theorem ins_get {α : Type} {l : List α} {x : α} {i k : Nat} (hi : i ≤ l.length) : ((l.take i ++ [x]) ++ l.drop i)[k]? = if k < i then l[k]? else if k = i then some x else l[k - 1]? := by
  rw [List.append_assoc, List.singleton_append]
  by_cases h1 : k < i
  · rw [if_pos h1, List.getElem?_append_left (by rw [List.length_take]; omega), List.getElem?_take, if_pos h1]
  · rw [if_neg h1, List.getElem?_append_right (by rw [List.length_take]; omega), List.length_take, Nat.min_eq_left hi]
    by_cases h2 : k = i
    · rw [if_pos h2, h2, Nat.sub_self, List.getElem?_cons_zero]
    · rw [if_neg h2]
      obtain ⟨d, hd⟩ : ∃ d, k - i = d + 1 := ⟨k - i - 1, by omega⟩
      rw [hd, List.getElem?_cons_succ, List.getElem?_drop]
      congr 1
      omega
/-- A new row put among the others. -/
theorem Rows.ins {w : World} {B E : Nat} {us : List Value} {xss : List (List Int)} (h : Rows w B E us xss) {u : Value} {xs : List Int} (hu : OwnInts w B u xs) (hf : ∀ b, u.ownBlock = some b → E ≤ b) {i : Nat} (hi : i ≤ xss.length) : Rows w B w.heap.size ((us.take i ++ [u]) ++ us.drop i) ((xss.take i ++ [xs]) ++ xss.drop i) := by
  have hp := h.push hu hf
  have hul := h.1
  refine ⟨by simp [hul], fun k zs hk => ?_, ?_⟩
  · rw [ins_get hi] at hk
    by_cases h1 : k < i
    · rw [if_pos h1] at hk
      obtain ⟨z, a, b, c⟩ := h.2.1 k zs hk
      exact ⟨z, by rw [ins_get (by omega), if_pos h1]; exact a, b, Own.inBlk b⟩
    · rw [if_neg h1] at hk
      by_cases h2 : k = i
      · rw [if_pos h2] at hk
        cases hk
        exact ⟨u, by rw [ins_get (by omega), if_neg h1, if_pos h2], hu, Own.inBlk hu⟩
      · rw [if_neg h2] at hk
        obtain ⟨z, a, b, c⟩ := h.2.1 _ zs hk
        exact ⟨z, by rw [ins_get (by omega), if_neg h1, if_neg h2]; exact a, b, Own.inBlk b⟩
  · rw [Rows.pw]
    have h3 := Rows.pw.1 hp.2.2
    refine (List.Perm.pairwise_iff (fun {x y} h => apart.symm h) ?_).1 h3
    have e : us ++ [u] = (us.take i ++ us.drop i) ++ [u] := by rw [List.take_append_drop]
    rw [e, List.append_assoc, List.append_assoc]
    exact List.Perm.append_left _ List.perm_append_comm
end Go.Proofs.YtdjdagcgodpgdaaGreat
