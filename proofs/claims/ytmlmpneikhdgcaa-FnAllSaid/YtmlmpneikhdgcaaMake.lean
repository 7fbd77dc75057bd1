/-
  The reference's makers of colorings.
-/
import Derived.Test.YtmlmpneikhdgcaaCode
set_option linter.unusedVariables false
namespace Go.Proofs.Ytmlmpneikhdgcaa
open Go.RowKit

set_option maxHeartbeats 400000 in
theorem l01Below_c {c : Nat} {n : Int} {w : World} {Q : Ending → World → Prop} (hc : Cur w c) (hn : 1 ≤ n) (hn2 : n ≤ 256)
    (hQ : ∀ (x : Int) w', 0 ≤ x → x < n → Cur w' c → w.grownBy w' (some c) → w'.heap.size = w.heap.size → Q (.returned (.int .i64 x)) w') :
    Calls Try.prog 105 #[.pointer (some ⟨c, 0, none⟩), .int .i64 n] w Q := by
  have H := Lib.hid hQ; clear hQ
  go_enter Try.func105, Try.ntmps105
  go_wp2_with fail
  refine l01Byte_c hc ?_
  intro x w2 hx0 hx1 hc2 hg2 hz2
  have hn0 : ¬ (n = 0) := by omega
  have hd1 : 0 ≤ x.tmod n := Int.tmod_nonneg _ hx0
  have hd2 : x.tmod n < n := Int.tmod_lt_of_pos _ (by omega)
  have hem : x.tmod n = x % n := Int.tmod_eq_emod_of_nonneg hx0
  have hwr : Hid (IntKind.i64.wrap (x.tmod n) = x.tmod n) := Lib.hid (IntWalk.i64_in _ (by omega))
  have h2 := H.out _ w2 hd1 hd2 hc2 hg2 hz2
  have h3 := Lib.hid h2
  have hem' := Lib.hid hem
  clear h2 hem
  go_wp2_with fail
  first | exact h3.out | (rw [hwr.out]; exact h3.out) | (rw [← hem'.out]; exact h3.out) | (rw [← hem'.out, hwr.out]; exact h3.out)
set_option maxHeartbeats 800000 in
theorem l04Colors_c {c : Nat} {n : Nat} {k : Int} {w : World} {Q : Ending → World → Prop} (hc : Cur w c) (hn : n ≤ 1000) (hk : 1 ≤ k) (hk2 : k ≤ 256)
    (hQ : ∀ v xs w', xs.length = n → (∀ x ∈ xs, 0 ≤ x ∧ x < k) → OwnInts w' w.heap.size v xs → Cur w' c → Below c w w' → Q (.returned v) w') :
    Calls Try.prog 79 #[.pointer (some ⟨c, 0, none⟩), .int .i64 n, .int .i64 k] w Q := by
  have H := Lib.hid hQ; clear hQ
  have hcl := hc.lt
  go_enter Try.func79, Try.ntmps79
  go_wp2_with fail
  have b0 := below_alloc w (.cells #[] 3)
  have o0 := own_empty w
  have c0 := hc.below b0
  have hsz0 : w.heap.size < (w.alloc (.cells #[] 3)).heap.size := by simp
  have bc0 : Below c w (w.alloc (.cells #[] 3)) := b0.mono (Nat.le_of_lt hcl)
  go_loopg [7, 8] n (fun g u7 u8 wr => ∃ (j : Nat) (xs : List Int), u8 = .int .i64 j ∧ xs.length = j ∧ Hid (∀ x ∈ xs, 0 ≤ x ∧ x < k) ∧ OwnInts wr w.heap.size u7 xs ∧ Cur wr c ∧ Below c w wr ∧ w.heap.size < wr.heap.size ∧ j + g ≤ n ∧ n ≤ j + g)
  case atStart => exact ⟨0, [], rfl, rfl, Lib.hid (fun x hx => by cases hx), o0, c0, bc0, hsz0, by omega, by omega⟩
  case round =>
    obtain ⟨j, xs, rfl, hl, hr, ho, hcr, hbw, hsz, hm1, hm2⟩ := hrel
    obtain ⟨a7, c7, rfl, _, _, _⟩ := Own.form ho
    by_cases hj : j < n
    · have hjI : (j : Int) < n := by omega
      go_wp2_with fail
      refine l01Below_c hcr hk hk2 ?_
      intro x w2 hx0 hx1 hc2 hg2 hz2
      have hz3 : wr.heap.size ≤ w2.heap.size ∧ w2.heap.size ≤ wr.heap.size := by omega
      clear hz2
      have ho2 : OwnInts w2 w.heap.size (.slice a7 (ints xs).length c7) xs := Own.grown ho hg2 (by
        cases hb : (Value.slice a7 (ints xs).length c7).ownBlock with
        | none => exact .inl rfl
        | some b =>
          refine .inr fun e => ?_
          cases e
          have := (Own.lt ho hb).1
          omega)
      have hbw2 : Below c w w2 := hbw.grown hg2 (by omega) (fun b hb => by cases hb; exact Nat.le_refl _)
      go_wp2_with (at_builtin; refine app_int rfl (.tmp 15) (.tmp 19) rfl rfl (OwnInts.below ho2 (below_alloc w2 _)) rfl (cell_new _ _ _) (by omega) (by simp; omega) ?_; intro v3 w3 o3 g3)
      have ba := below_alloc w2 (.cells #[.int .i64 x] 3)
      have hc3 : Cur w3 c := (hc2.below ba).grown g3 (fun b hb => by have := (Own.lt ho2 hb).1; omega)
      have hs3 := g3.size
      simp at hs3
      have hbw3 : Below c w w3 := (hbw2.trans (ba.mono (by omega))).grown g3 (by simp; omega) (fun b hb => by have := (Own.lt ho2 hb).1; omega)
      go_roundg (gk - 1)
      case measure => omega
      case rel => exact ⟨j + 1, xs ++ [x], by go_num, by simp [hl], Lib.hid (fun y hy => by
        rcases List.mem_append.1 hy with h | h
        · exact hr.out y h
        · rw [List.mem_singleton] at h; subst h; exact ⟨hx0, hx1⟩), o3, hc3, hbw3, by omega, by omega, by omega⟩
    · have h3 := Lib.hid (H.out _ xs wr (by omega) hr.out ho hcr hbw)
      go_wp2_with fail
      exact h3.out
set_option maxHeartbeats 400000 in
theorem MakeColors_c {v : Value} {bs : List Int} {m : Int} {n : Nat} {k : Int} {w : World} {Q : Ending → World → Prop} (hb : BytesAt w v bs) (hm0 : 0 ≤ m) (hm : m ≤ 1000) (hn1 : 1 ≤ n) (hn : n ≤ 10) (hk : 1 ≤ k) (hk2 : k ≤ 4)
    (hQ : ∀ u xs w', xs.length = n → (∀ x ∈ xs, 0 ≤ x ∧ x < k) → OwnInts w' w.heap.size u xs → Below w.heap.size w w' → Q (.returned u) w') :
    Calls Try.prog 33 #[v, .int .i64 m, .int .i64 n, .int .i64 k] w Q := by
  have H := Lib.hid hQ; clear hQ
  go_enter Try.func33, Try.ntmps33
  go_wp2_with fail
  refine l16New_c hb hm0 hm ?_
  intro w1 hc1 hb1 hs1
  obtain h1 | h1 : n = 1 ∨ 1 < n := by omega
  · subst h1
    obtain h2 | h2 : k = 1 ∨ 1 < k := by omega
    · subst h2
      go_wp2_with fail
      refine l04Colors_c (n := 1) (k := 1) hc1 (by omega) (by omega) (by omega) ?_
      intro u xs w2 hl hr ho hc2 hb2
      have hz := hb1.size
      have h3 := Lib.hid (H.out u xs w2 hl hr (Own.mono ho (by omega)) (hb1.trans hb2))
      obtain ⟨ao, co, rfl, _, _, _⟩ := Own.form ho
      go_wp2_with fail
      exact h3.out
    · skip
      go_wp2_with fail
      refine l04Colors_c (n := 1) (k := k) hc1 (by omega) (by omega) (by omega) ?_
      intro u xs w2 hl hr ho hc2 hb2
      have hz := hb1.size
      have h3 := Lib.hid (H.out u xs w2 hl hr (Own.mono ho (by omega)) (hb1.trans hb2))
      obtain ⟨ao, co, rfl, _, _, _⟩ := Own.form ho
      go_wp2_with fail
      exact h3.out
  · have h1' : (1 : Int) < n := by omega
    obtain h2 | h2 : k = 1 ∨ 1 < k := by omega
    · subst h2
      go_wp2_with fail
      refine l04Colors_c (n := n) (k := 1) hc1 (by omega) (by omega) (by omega) ?_
      intro u xs w2 hl hr ho hc2 hb2
      have hz := hb1.size
      have h3 := Lib.hid (H.out u xs w2 hl hr (Own.mono ho (by omega)) (hb1.trans hb2))
      obtain ⟨ao, co, rfl, _, _, _⟩ := Own.form ho
      go_wp2_with fail
      exact h3.out
    · skip
      go_wp2_with fail
      refine l04Colors_c (n := n) (k := k) hc1 (by omega) (by omega) (by omega) ?_
      intro u xs w2 hl hr ho hc2 hb2
      have hz := hb1.size
      have h3 := Lib.hid (H.out u xs w2 hl hr (Own.mono ho (by omega)) (hb1.trans hb2))
      obtain ⟨ao, co, rfl, _, _, _⟩ := Own.form ho
      go_wp2_with fail
      exact h3.out
end Go.Proofs.Ytmlmpneikhdgcaa
