/-
  Words in reverse order.
-/
import Derived.Test.YtmlmpneikhdgcaaRot
import Derived.BigRegion
set_option linter.unusedVariables false
namespace Go.Proofs.Ytmlmpneikhdgcaa
open Go.RowKit

namespace Words
/-- ys is xs with its first r and its last r elements exchanged. -/
def RevTo (xs ys : List Int) (r : Nat) : Prop := ys.length = xs.length ∧ ∀ i, i < xs.length → ys[i]? = if i < r ∨ xs.length ≤ i + r then xs[xs.length - 1 - i]? else xs[i]?
theorem RevTo.zero (xs : List Int) : RevTo xs xs 0 := ⟨rfl, fun i hi => by rw [if_neg (by omega)]⟩
theorem RevTo.step {xs ys : List Int} {r : Nat} {x y : Int} (h : RevTo xs ys r) (hr : r + r + 1 < xs.length) (hx : ys[r]? = some x) (hy : ys[xs.length - 1 - r]? = some y) :
    RevTo xs ((ys.set r y).set (xs.length - 1 - r) x) (r + 1) := by
  obtain ⟨h1, h2⟩ := h
  refine ⟨by rw [List.length_set, List.length_set]; exact h1, fun i hi => ?_⟩
  have e1 := h2 r (by omega)
  rw [if_neg (by omega), hx] at e1
  have e2 := h2 (xs.length - 1 - r) (by omega)
  rw [if_neg (by omega), hy] at e2
  by_cases a : i = xs.length - 1 - r
  · subst a
    rw [List.getElem?_set_self (by rw [List.length_set]; omega), if_pos (by omega), show xs.length - 1 - (xs.length - 1 - r) = r from by omega, e1]
  · rw [List.getElem?_set_ne (by omega)]
    by_cases b : i = r
    · subst b
      rw [List.getElem?_set_self (by omega), if_pos (by omega), e2]
    · rw [List.getElem?_set_ne (by omega), h2 i hi]
      by_cases c : i < r ∨ xs.length ≤ i + r
      · rw [if_pos c, if_pos (by omega)]
      · rw [if_neg c, if_neg (by omega)]
theorem RevTo.done {xs ys : List Int} {r : Nat} (h : RevTo xs ys r) (hr : xs.length ≤ r + r + 1) : ys = xs.reverse := by
  obtain ⟨h1, h2⟩ := h
  apply List.ext_getElem?
  intro i
  by_cases hi : i < xs.length
  · rw [h2 i hi, List.getElem?_reverse hi]
    by_cases c : i < r ∨ xs.length ≤ i + r
    · rw [if_pos c]
    · rw [if_neg c, show xs.length - 1 - i = i from by omega]
  · rw [List.getElem?_eq_none (by omega), List.getElem?_eq_none (by rw [List.length_reverse]; omega)]
end Words
theorem grown_drewN {w w' : World} {row : Option Nat} (h : w.grownBy w' row) (n : Nat) : w.grownBy (w'.drewN n) row := ⟨h.os, h.tape, h.output, h.size, h.block⟩

set_option maxHeartbeats 800000 in
theorem Reverse_c {v : Value} {xs : List Int} {B : Nat} {w : World} {Q : Ending → World → Prop} (ho : OwnInts w B v xs)
    (hQ : ∀ w', OwnInts w' B v xs.reverse → w.grownBy w' v.ownBlock → Q (.returned (.tuple #[])) w') :
    Calls Try.prog 106 #[v] w Q := by
  have H := Lib.hid hQ; clear hQ
  obtain ⟨aa, ca, rfl, la, lca, cca⟩ := Own.form ho
  rw [ints_len] at *
  go_enter Try.func106, Try.ntmps106
  go_wp2
  go_loopg [2, 3] xs.length (fun g i q wr => ∃ (r : Nat) (m : Int) (ys : List Int), i = .int .i64 r ∧ q = .int .i64 m ∧ OwnInts wr B (.slice aa xs.length ca) ys ∧ w.grownBy wr (Value.ownBlock (.slice aa xs.length ca)) ∧ Hid (Words.RevTo xs ys r) ∧ Hid (m = (xs.length : Int) - 1 - r) ∧ Hid (m < xs.length) ∧ r + g = xs.length)
  case atStart => exact ⟨0, _, xs, rfl, rfl, ho, World.grownBy.refl _ _, Lib.hid (Words.RevTo.zero xs), Lib.hid (by omega), Lib.hid (by omega), by omega⟩
  case round =>
    obtain ⟨r, m, ys, rfl, rfl, hr, hg, hR, hm, hm2, hk⟩ := hrel
    have hyl : Hid (ys.length = xs.length) := Lib.hid hR.out.1
    by_cases hj : (r : Int) < m
    · obtain ⟨q, rfl⟩ : ∃ q : Nat, m = q := ⟨m.toNat, by omega⟩
      have hq : Hid (q = xs.length - 1 - r) := Lib.hid (by have := hm.out; omega)
      have h1 := hm.out
      have h2 := hyl.out
      obtain ⟨b, rfl, hb1, hb2⟩ := Own.head hr (by rw [ints_len]; omega)
      obtain ⟨x, hx, hcx⟩ := OwnInts.cell hr (k := r) (by omega)
      obtain ⟨y, hy, hcy⟩ := OwnInts.cell hr (k := q) (by omega)
      have hf1 := Own.frozen hr r
      have hf2 := Own.frozen hr q
      have i1 : (r : Int) < xs.length := by omega
      have i2 : (q : Int) < xs.length := by omega
      have hne : r ≠ q := by omega
      have hk' : r < xs.length := by omega
      have hk0 := Lib.hid hk
      clear h1 h2 hk
      go_wp2
      go_region
      go_wp2
      go_roundg (gk - 1)
      case measure => have := hk0.out; omega
      case rel =>
        have e1 := hq.out
        have e2 := hm.out
        have e3 := hk0.out
        have hR' : Words.RevTo xs ((ys.set r y).set q x) (r + 1) := by
          rw [e1]; rw [e1] at hy
          exact Words.RevTo.step hR.out (by omega) hx.out hy.out
        exact ⟨r + 1, (q : Int) - 1, (ys.set r y).set q x, by go_num, rfl, Own.drawn (OwnInts.set (OwnInts.set hr r y) q x) (Drawn.one _ 1), grown_drewN (grown_trans hg (grown_trans (grown_set _ _ _ _) (grown_set _ _ _ _))) 1, Lib.hid hR', Lib.hid (by omega), Lib.hid (by omega), by omega⟩
    · go_wp2
      go_end0
      have e : ys = xs.reverse := hR.out.done (by have := hm.out; omega)
      subst e
      exact H.out _ hr hg
set_option maxHeartbeats 400000 in
theorem mirror_i {va : Value} {xs : List Int} {w : World} {Q : Ending → World → Prop} (ha : IntsAt w va xs) (hn : xs.length ≤ 1048576)
    (hQ : ∀ v w', OwnInts w' w.heap.size v xs.reverse → Below w.heap.size w w' → Q (.returned v) w') :
    Calls Try.prog 82 #[va] w Q := by
  have H := Lib.hid hQ; clear hQ
  go_enter Try.func82, Try.ntmps82
  go_wp2_with fail
  refine Clone_c ha (by omega) ?_; intro v1 w1 o1 b1
  go_wp2_with fail
  refine Reverse_c o1 ?_; intro w2 o2 g2
  go_wp2
  exact H.out _ _ o2 (b1.grown g2 b1.size (fun k hk => (Own.lt o1 hk).1))
set_option maxHeartbeats 400000 in
theorem mirror_s {va : Value} {xs : List Int} {w : World} {Q : Ending → World → Prop} (ha : IntsAt w va xs) (hn : xs.length ≤ 1048576)
    (hQ : ∀ v w', OwnInts w' w.heap.size v xs.reverse → Below w.heap.size w w' → Q (.returned v) w') :
    Calls Try.prog 110 #[va] w Q := by
  have H := Lib.hid hQ; clear hQ
  have ha' := ha
  obtain ⟨aa, ca, rfl, la, lca, cca⟩ := ha'.form
  go_enter Try.func110, Try.ntmps110
  go_wp2
  go_loopg [3, 4] xs.length (fun g o i wr => ∃ m : Int, i = .int .i64 m ∧ OwnInts wr w.heap.size o ((xs.drop g).reverse) ∧ Below w.heap.size w wr ∧ Hid (m = (g : Int) - 1) ∧ m < 1048576 ∧ -1 ≤ m ∧ g ≤ xs.length)
  case atStart => exact ⟨_, rfl, by rw [List.drop_length]; exact own_empty w, below_alloc w _, Lib.hid (by omega), by omega, by omega, Nat.le_refl _⟩
  case round =>
    obtain ⟨m, rfl, ho, hb, hm, hm2, hm3, hgl⟩ := hrel
    by_cases hj : 0 ≤ m
    · obtain ⟨k, rfl⟩ : ∃ k : Nat, m = k := ⟨m.toNat, by omega⟩
      have hk : gk = k + 1 := by have := hm.out; omega
      obtain ⟨ba, oa, x, rfl, hx, hcx⟩ := ha.cell (k := k) (by omega)
      have hcx' := below_cells hb _ _ hcx
      have i1 : (k : Int) < xs.length := by omega
      subst hk
      go_wp2_with (at_builtin; go_loud (refine app_int rfl (.tmp 13) (.tmp 18) rfl rfl (OwnInts.below ho (below_alloc wr _)) rfl (cell_new _ _ _) (by simp; omega) (by have := hb.size; simp; omega) ?_); intro v2 w2 o2 g2)
      go_roundg k
      case measure => omega
      case rel =>
        have e : (xs.drop (k + 1)).reverse ++ [x] = (xs.drop k).reverse := by
          obtain ⟨h1, h2⟩ := List.getElem?_eq_some_iff.1 hx.out
          rw [List.drop_eq_getElem_cons h1, List.reverse_cons, h2]
        rw [e] at o2
        exact ⟨(k : Int) - 1, rfl, o2, (hb.alloc hb.size _).grown g2 (by have := hb.size; simp; omega) (fun j hj => (OwnInts.lt ho hj).1), Lib.hid (by omega), by omega, by omega, by omega⟩
    · go_wp2
      have e : gk = 0 := by have := hm.out; omega
      subst e
      exact H.out _ _ ho hb
end Go.Proofs.Ytmlmpneikhdgcaa
