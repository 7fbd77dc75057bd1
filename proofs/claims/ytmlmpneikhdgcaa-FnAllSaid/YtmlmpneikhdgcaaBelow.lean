/-
  Whether all colors are less than a number.
-/
import Derived.Test.YtmlmpneikhdgcaaRot
set_option linter.unusedVariables false
namespace Go.Proofs.Ytmlmpneikhdgcaa
open Go.RowKit

set_option maxHeartbeats 400000 in
theorem below1_i {x k : Int} {b : Nat} {w : World} {Q : Ending → World → Prop} (hc : w.cell? ⟨b, 0, none⟩ = some (.int .i64 k)) (hQ : Q (.returned (.bool (decide (k ≤ x)))) w) :
    Calls Try.prog 89 #[.int .i64 x, .pointer (some ⟨b, 0, none⟩)] w Q := by
  have H := Lib.hid hQ; clear hQ
  go_enter Try.func89, Try.ntmps89
  go_wp2
  exact boolq' H.out (by simp)
set_option maxHeartbeats 800000 in
theorem IndexFunc_below {va : Value} {xs : List Int} {k : Int} {b : Nat} {w : World} {Q : Ending → World → Prop} (ha : IntsAt w va xs) (hc : w.cell? ⟨b, 0, none⟩ = some (.int .i64 k))
    (hQ : ∀ i : Int, (i < 0 ↔ ∀ x ∈ xs, x < k) → Q (.returned (.int .i64 i)) w) :
    Calls Try.prog 108 #[va, .func (.func 89) #[] #[.pointer (some ⟨b, 0, none⟩)]] w Q := by
  have H := Lib.hid hQ; clear hQ
  obtain ⟨aa, ca, rfl, la, lca, cca⟩ := ha.form
  go_enter Try.func108, Try.ntmps108
  go_wp2_with fail
  go_loopg [8] xs.length (fun g i wr => Hid (wr = w) ∧ ∃ j : Nat, i = .int .i64 j ∧ Hid (∀ x ∈ xs.take j, x < k) ∧ j + g ≤ xs.length ∧ xs.length ≤ j + g)
  case atStart => exact ⟨Lib.hid rfl, 0, rfl, Lib.hid (by simp), by omega, by omega⟩
  case round =>
    obtain ⟨hw, j, rfl, hg, hk1, hk2⟩ := hrel
    obtain rfl := hw.out
    clear hw
    by_cases hj : j < xs.length
    · obtain ⟨ba, oa, x, rfl, hx, hcx⟩ := ha.cell hj
      have i1 : (j : Int) < xs.length := by omega
      by_cases hxk : k ≤ x
      · have hd : Hid (decide (k ≤ x) = true) := Lib.hid (decide_eq_true hxk)
        have hf : Hid (((j : Int) < 0) ↔ ∀ x ∈ xs, x < k) := Lib.hid ⟨fun h => by omega, fun h => by have := h x (List.mem_of_getElem? hx.out); omega⟩
        go_wp2_with fail
        refine below1_i hc ?_
        rw [hd.out]
        go_wp2_with fail
        exact H.out _ hf.out
      · have hd : Hid (decide (k ≤ x) = false) := Lib.hid (decide_eq_false hxk)
        have hg' : Hid (∀ x ∈ xs.take (j + 1), x < k) := Lib.hid (by
          intro y hy
          rw [List.take_add_one, hx.out] at hy
          rcases List.mem_append.1 hy with h | h
          · exact hg.out y h
          · simp at h; omega)
        go_wp2_with fail
        refine below1_i hc ?_
        rw [hd.out]
        go_wp2_with fail
        go_roundg (gk - 1)
        case measure => omega
        case rel => exact ⟨Lib.hid rfl, j + 1, by go_num, hg', by omega, by omega⟩
    · have hf : Hid (((-1 : Int) < 0) ↔ ∀ x ∈ xs, x < k) := Lib.hid ⟨fun _ => by
        have := hg.out
        rwa [List.take_of_length_le (by omega)] at this, fun _ => by omega⟩
      go_wp2_with fail
      exact H.out _ hf.out
set_option maxHeartbeats 400000 in
theorem ContainsFunc_below {va : Value} {xs : List Int} {k : Int} {b : Nat} {w : World} {Q : Ending → World → Prop} (ha : IntsAt w va xs) (hc : w.cell? ⟨b, 0, none⟩ = some (.int .i64 k))
    (hQ : Q (.returned (.bool (!(xs.all fun x => decide (x < k))))) w) :
    Calls Try.prog 88 #[va, .func (.func 89) #[] #[.pointer (some ⟨b, 0, none⟩)]] w Q := by
  have H := Lib.hid hQ; clear hQ
  have ha0 := Lib.hid ha
  obtain ⟨aa, ca, rfl, la, lca, cca⟩ := ha.form
  go_enter Try.func88, Try.ntmps88
  go_wp2_with fail
  refine IndexFunc_below ha0.out hc ?_
  intro i hi
  have hi' := Lib.hid hi
  clear hi
  go_wp2_with fail
  refine boolq' H.out ?_
  have h := hi'.out
  by_cases h0 : i < 0
  · have h1 : (xs.all fun x => decide (x < k)) = true := by rw [List.all_eq_true]; intro x hx; exact decide_eq_true (h.1 h0 x hx)
    rw [h1]; simp; omega
  · have h1 : (xs.all fun x => decide (x < k)) = false := by
      cases hh : xs.all fun x => decide (x < k) with
      | false => rfl
      | true => exact absurd (h.2 fun x hx => of_decide_eq_true (List.all_eq_true.1 hh x hx)) h0
    rw [h1]; simp; omega
set_option maxHeartbeats 400000 in
theorem below_i {va : Value} {xs : List Int} {k : Int} {w : World} {Q : Ending → World → Prop} (ha : IntsAt w va xs)
    (hQ : ∀ w', Below w.heap.size w w' → Q (.returned (.bool (xs.all fun x => decide (x < k)))) w') :
    Calls Try.prog 53 #[va, .int .i64 k] w Q := by
  have H := Lib.hid hQ; clear hQ
  have ha0 := Lib.hid ha
  obtain ⟨aa, ca, rfl, la, lca, cca⟩ := ha.form
  go_enter Try.func53, Try.ntmps53
  go_wp2_with fail
  refine ContainsFunc_below (ha0.out.below (below_alloc w _)) (cell_new _ _ _) ?_
  go_wp2_with fail
  refine boolq' (H.out _ (below_alloc w _)) ?_
  simp
end Go.Proofs.Ytmlmpneikhdgcaa
