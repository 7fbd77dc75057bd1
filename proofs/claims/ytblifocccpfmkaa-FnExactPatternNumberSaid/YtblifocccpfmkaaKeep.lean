/-
  What keeps a coloring.
-/
import Derived.Test.YtblifocccpfmkaaPat
set_option linter.unusedVariables false
namespace Go.Proofs.Ytblifocccpfmkaa
open Go.RowKit

set_option maxHeartbeats 1600000 in
theorem keepers_i {vg vl : Value} {g : List (List Int)} {l : List Int} {w : World} {Q : Ending → World → Prop} (hg : RowsAt w vg g) (hl : IntsAt w vl l) (hf : Perms.Fit g l)
    (hQ : ∀ v w', OwnRows w' w.heap.size w'.heap.size v (Perms.keep g l) → Below w.heap.size w w' → Q (.returned v) w') :
    Calls Try.prog 45 #[vg, vl] w Q := by
  have H := Lib.hid hQ; clear hQ
  obtain ⟨hf1, hf2, hf3⟩ := hf
  have hf1' := Lib.hid hf1
  clear hf1
  obtain ⟨aa, ca, rfl, la, lca, cca⟩ := hg.form
  obtain ⟨al, cl, rfl, ll, lcl, ccl⟩ := hl.form
  go_enter Try.func45, Try.ntmps45
  have hb0 : Below w.heap.size w w := Below.refl _ _
  have hsw : w.heap.size ≤ w.heap.size := Nat.le_refl _
  go_wp2_with fail
  go_loopg [5, 11] g.length (fun k b i wr => ∃ j : Nat, i = .int .i64 j ∧ Below w.heap.size w wr ∧ w.heap.size ≤ wr.heap.size ∧ OwnRows wr w.heap.size wr.heap.size b (Perms.keepTo g l j) ∧ j + k ≤ g.length ∧ g.length ≤ j + k)
  case atStart => exact ⟨0, rfl, hb0.alloc hb0.size _, by simp, OwnRows.tight (own_rows_empty w), by omega, by omega⟩
  case round =>
    obtain ⟨j, rfl, hbw, hs0, ho, hk1, hk2⟩ := hrel
    by_cases hj : j < g.length
    · have i1 : (j : Int) < g.length := by omega
      obtain ⟨b, off, u, p, rfl, hx, hcw, hip⟩ := hg.cell hj
      have hc := below_cells hbw _ _ hcw
      obtain ⟨ap, cp, rfl, _, _, _⟩ := hip.form
      obtain ⟨fp1, fp2⟩ := hf1'.out p (List.mem_of_getElem? hx.out)
      have fp1' := Lib.hid fp1
      have fp2' := Lib.hid fp2
      clear fp1 fp2
      have es := Lib.hid (Perms.keepTo_step (l := l) hx.out)
      have hkl := Lib.hid (Perms.keepTo_len g l j)
      go_wp2_with fail
      refine act_i (hip.below hbw) (hl.below hbw) (by omega) fp1'.out fp2'.out ?_
      intro v2 w2 o2 b2
      have hbw2 : Below w.heap.size w w2 := hbw.trans (b2.mono hbw.size)
      have ho2 := ho.below b2
      by_cases hb : Perms.act p l = l
      · have hd : Hid (decide (Perms.act p l = l) = true) := Lib.hid (decide_eq_true hb)
        have es2 := es.out
        rw [if_pos hb] at es2
        have es3 := Lib.hid es2
        clear es2 es hb
        go_wp2_with fail
        refine Equal_c o2.at (hl.below hbw2) ?_
        intro w3 d3
        rw [hd.out]
        go_wp2_with fail
        refine Clone_c ((hip.below hbw).below b2 |>.drawn d3) (by rw [fp1'.out]; omega) ?_
        intro v4 w4 o4 b4
        obtain ⟨ao4, ca4, rfl, la4, lc4, cc4⟩ := Own.form o4
        have b34 : Below wr.heap.size wr w4 := (b2.trans (d3.below _)).trans (b4.mono (Nat.le_trans b2.size (d3.below 0).size))
        have ho4 := ho.below b34
        have hf4 : ∀ b, (Value.slice ao4 (ints p).length ca4).ownBlock = some b → wr.heap.size ≤ b := fun b hb => Nat.le_trans (Nat.le_trans b2.size (d3.below 0).size) (Own.lt o4 hb).1
        have hB4 : w.heap.size ≤ w4.heap.size := Nat.le_trans hs0 b34.size
        have o4' : OwnInts w4 w.heap.size (Value.slice ao4 (ints p).length ca4) p := Own.mono o4 (Nat.le_trans hs0 (Nat.le_trans b2.size (d3.below 0).size))
        go_wp2_with (at_builtin; refine app_rows rfl (.tmp 20) (.tmp 23) rfl rfl (OwnRows.below ho4 (below_alloc w4 _)) rfl (cell_new _ _ _) (OwnInts.below o4' (below_alloc w4 _)) hf4 (by have := hkl.out; omega) (by simp; omega) ?_; intro v5 w5 o5 t5)
        have hbw5 : Below w.heap.size w w5 := ((hbw.trans (b34.mono hbw.size)).alloc (Nat.le_trans hbw.size b34.size) _).trans (t5.below hsw (by simp; have := hbw.size; have := b34.size; omega))
        go_roundg (gk - 1)
        case measure => omega
        case rel => exact ⟨j + 1, by go_num, hbw5, Nat.le_trans (by simp; omega) t5.size, by rw [es3.out]; exact o5, by omega, by omega⟩
      · have hd : Hid (decide (Perms.act p l = l) = false) := Lib.hid (decide_eq_false hb)
        have es2 := es.out
        rw [if_neg hb, List.append_nil] at es2
        have es3 := Lib.hid es2
        clear es2 es hb
        go_wp2_with fail
        refine Equal_c o2.at (hl.below hbw2) ?_
        intro w3 d3
        rw [hd.out]
        go_wp2_with fail
        go_roundg (gk - 1)
        case measure => omega
        case rel => exact ⟨j + 1, by go_num, hbw2.trans (d3.below _), Nat.le_trans hs0 (Nat.le_trans b2.size (d3.below 0).size), by rw [es3.out]; exact (ho2.drawn d3).tight, by omega, by omega⟩
    · go_wp2_with fail
      rw [Perms.keepTo_all g l (by omega)] at ho
      exact H.out _ _ ho hbw
set_option maxHeartbeats 800000 in
theorem KeepersOf_i {vg vl : Value} {g : List (List Int)} {l : List Int} {w : World} {Q : Ending → World → Prop} (hg : RowsAt w vg g) (hl : IntsAt w vl l)
    (hQ : ∀ v w', OwnRows w' w.heap.size w'.heap.size v (Perms.keepW g l) → Below w.heap.size w w' → Q (.returned v) w') :
    Calls Try.prog 28 #[vg, vl] w Q := by
  have H := Lib.hid hQ; clear hQ
  have hg0 := Lib.hid hg
  have hl0 := Lib.hid hl
  obtain ⟨aa, ca, rfl, la, lca, cca⟩ := hg.form
  obtain ⟨al, cl, rfl, ll, lcl, ccl⟩ := hl.form
  go_enter Try.func28, Try.ntmps28
  go_wp2_with fail
  refine CanonOf_i hg0.out hl0.out ?_
  intro v1 w1 o1 b1
  cases hfb : Perms.fitsB g l with
  | false =>
    have h2 := H.out (.slice none 0 0) w1 (by unfold Perms.keepW; rw [if_neg (by rw [hfb]; simp)]; exact OwnRows.nil _ _ _) b1
    have h3 := Lib.hid h2
    clear h2
    go_wp2_with fail
    exact h3.out
  | true =>
    have hf2 := Lib.hid hfb
    clear hfb
    go_wp2_with fail
    refine keepers_i (hg0.out.below b1) (hl0.out.below b1) (Perms.fitsB_fit hf2.out) ?_
    intro v2 w2 o2 b2
    have h2 := H.out v2 w2 (by unfold Perms.keepW; rw [if_pos hf2.out]; exact OwnRows.mono o2 b1.size (Nat.le_refl _)) (b1.trans (b2.mono b1.size))
    have h3 := Lib.hid h2
    clear h2
    go_wp2_with fail
    exact h3.out
set_option maxHeartbeats 1600000 in
theorem KeepersOf_s {vg vl : Value} {g : List (List Int)} {l : List Int} {w : World} {Q : Ending → World → Prop} (hg : RowsAt w vg g) (hl : IntsAt w vl l)
    (hQ : ∀ v w', OwnRows w' w.heap.size w'.heap.size v (Perms.keepW g l) → Below w.heap.size w w' → Q (.returned v) w') :
    Calls Try.prog 27 #[vg, vl] w Q := by
  have H := Lib.hid hQ; clear hQ
  have hg0 := Lib.hid hg
  have hl0 := Lib.hid hl
  obtain ⟨aa, ca, rfl, la, lca, cca⟩ := hg.form
  obtain ⟨al, cl, rfl, ll, lcl, ccl⟩ := hl.form
  go_enter Try.func27, Try.ntmps27
  go_wp2_with fail
  refine fits_s hg0.out hl0.out ?_
  intro wb hb0
  have hsw : w.heap.size ≤ wb.heap.size := hb0.size
  by_cases hfb0 : Perms.fitsB g l = true
  rotate_left
  · have hfb : Perms.fitsB g l = false := by simpa using hfb0
    have h2 := H.out (.slice none 0 0) wb (by unfold Perms.keepW; rw [if_neg hfb0]; exact OwnRows.nil _ _ _) hb0
    have h3 := Lib.hid h2
    clear h2 hfb0
    go_wp2_with fail
    exact h3.out
  obtain ⟨hf1, hf2, hf3⟩ := Perms.fitsB_fit hfb0
  have hf1' := Lib.hid hf1
  have hkw : Hid (Perms.keepW g l = Perms.keep g l) := Lib.hid (by unfold Perms.keepW; rw [if_pos hfb0])
  clear hf1
  go_wp2_with fail
  go_loopg [5, 15] g.length (fun k b i wr => ∃ j : Nat, i = .int .i64 j ∧ Below w.heap.size w wr ∧ wb.heap.size ≤ wr.heap.size ∧ OwnRows wr wb.heap.size wr.heap.size b (Perms.keepTo g l j) ∧ j + k ≤ g.length ∧ g.length ≤ j + k)
  case atStart => exact ⟨0, rfl, hb0.alloc hb0.size _, by simp, OwnRows.tight (own_rows_empty wb), by omega, by omega⟩
  case round =>
    obtain ⟨j, rfl, hbw, hs0, ho, hk1, hk2⟩ := hrel
    by_cases hj : j < g.length
    · have i1 : (j : Int) < g.length := by omega
      obtain ⟨b, off, u, p, rfl, hx, hcw, hip⟩ := hg.cell hj
      have hc := below_cells hbw _ _ hcw
      obtain ⟨ap, cp, rfl, _, _, _⟩ := hip.form
      obtain ⟨fp1, fp2⟩ := hf1'.out p (List.mem_of_getElem? hx.out)
      have fp1' := Lib.hid fp1
      have fp2' := Lib.hid fp2
      clear fp1 fp2
      have es := Lib.hid (Perms.keepTo_step (l := l) hx.out)
      have hkl := Lib.hid (Perms.keepTo_len g l j)
      go_wp2_with fail
      refine act_s (hip.below hbw) (hl.below hbw) (by omega) fp1'.out fp2'.out ?_
      intro v2 w2 o2 b2
      have hbw2 : Below w.heap.size w w2 := hbw.trans (b2.mono hbw.size)
      have ho2 := ho.below b2
      by_cases hb : Perms.act p l = l
      · have hd : Hid (decide (Perms.act p l = l) = true) := Lib.hid (decide_eq_true hb)
        have es2 := es.out
        rw [if_pos hb] at es2
        have es3 := Lib.hid es2
        clear es2 es hb
        go_wp2_with fail
        refine l03Same_c o2.at (hl.below hbw2) ?_
        intro w3 d3
        rw [hd.out]
        have hip3 := (hip.below hbw).below b2 |>.drawn d3
        have b23 : Below wr.heap.size wr w3 := b2.trans (d3.below _)
        have hB3 : wb.heap.size ≤ w3.heap.size := Nat.le_trans hs0 b23.size
        go_wp2_with (first
          | (at_builtin; refine app_ints rfl (.tmp 25) (.tmp 26) rfl rfl (own_empty w3) rfl (hip3.below (below_alloc w3 _)) (by rw [fp1'.out]; simp; omega) (by simp) ?_; intro v4 w4 o4 g4; change World.grownBy _ w4 (some w3.heap.size) at g4; obtain ⟨ao4, ca4, rfl, la4, lc4, cc4⟩ := Own.form o4; have b4 : Below w3.heap.size w3 w4 := (below_alloc w3 _).grown g4 (by simp) (by intro k hk; cases hk; exact Nat.le_refl _); have b34 : Below wr.heap.size wr w4 := b23.trans (b4.mono b23.size); have ho4 := ho.below b34; have hf4 : ∀ b, (Value.slice ao4 (ints ([] ++ p)).length ca4).ownBlock = some b → wr.heap.size ≤ b := (fun b hb => Nat.le_trans b23.size (Own.lt o4 hb).1); have hB4 : wb.heap.size ≤ w4.heap.size := Nat.le_trans hs0 b34.size; have o4' : OwnInts w4 wb.heap.size (Value.slice ao4 (ints ([] ++ p)).length ca4) ([] ++ p) := Own.mono o4 hB3)
          | (at_builtin; refine app_rows rfl (.tmp 24) (.tmp 28) rfl rfl (OwnRows.below ho4 (below_alloc w4 _)) rfl (cell_new _ _ _) (OwnInts.below o4' (below_alloc w4 _)) hf4 (by have := hkl.out; omega) (by simp; omega) ?_; intro v5 w5 o5 t5))
        rw [List.nil_append] at o5
        have hbw5 : Below w.heap.size w w5 := ((hbw.trans (b34.mono hbw.size)).alloc (Nat.le_trans hbw.size b34.size) _).trans (t5.below hsw (by simp; have := hbw.size; have := b34.size; omega))
        go_roundg (gk - 1)
        case measure => omega
        case rel => exact ⟨j + 1, by go_num, hbw5, Nat.le_trans (by simp; omega) t5.size, by rw [es3.out]; exact o5, by omega, by omega⟩
      · have hd : Hid (decide (Perms.act p l = l) = false) := Lib.hid (decide_eq_false hb)
        have es2 := es.out
        rw [if_neg hb, List.append_nil] at es2
        have es3 := Lib.hid es2
        clear es2 es hb
        go_wp2_with fail
        refine l03Same_c o2.at (hl.below hbw2) ?_
        intro w3 d3
        rw [hd.out]
        go_wp2_with fail
        go_roundg (gk - 1)
        case measure => omega
        case rel => exact ⟨j + 1, by go_num, hbw2.trans (d3.below _), Nat.le_trans hs0 (Nat.le_trans b2.size (d3.below 0).size), by rw [es3.out]; exact (ho2.drawn d3).tight, by omega, by omega⟩
    · go_wp2_with fail
      rw [Perms.keepTo_all g l (by omega)] at ho
      refine H.out _ _ ?_ hbw
      rw [hkw.out]
      exact OwnRows.mono ho hsw (Nat.le_refl _)
end Go.Proofs.Ytblifocccpfmkaa
