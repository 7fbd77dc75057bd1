/-
  All necklaces, as the program lists them.
-/
import Derived.Test.YtmlmpneikhdgcaaGrow2
set_option linter.unusedVariables false
namespace Go.Proofs.Ytmlmpneikhdgcaa
open Go.RowKit

/-- All necklaces of n letters of k colors, in order. -/
def Words.necks (k : Int) (n : Nat) : List (List Int) := (Perms.wordsN k.toNat n).filter Words.neckP
set_option maxHeartbeats 1600000 in
theorem necklaces_i {n : Nat} {k : Int} {w : World} {Q : Ending → World → Prop} (hk1 : 1 ≤ k) (hk4 : k ≤ 4) (hn1 : 1 ≤ n) (hn : n ≤ 10)
    (hQ : ∀ v w', OwnRows w' w.heap.size w'.heap.size v (Words.necks k n) → Below w.heap.size w w' → Q (.returned v) w') :
    Calls Try.prog 62 #[.int .i64 n, .int .i64 k] w Q := by
  have H := Lib.hid hQ; clear hQ
  go_enter Try.func62, Try.ntmps62
  go_wp2_with (at_make; refine mk_ints rfl (.tmp 7) (.tmp 7) rfl rfl rfl n rfl (by omega) ?_; intro w1 ho1 hb1 hs1)
  have hq2 : ((w.alloc (.cells #[] 22)).alloc (.cells #[.slice (some ⟨w.heap.size, 0, none⟩) 0 0] 31)).heap.size = w.heap.size + 2 := by rw [World.size_alloc, World.size_alloc]
  have hq1 : (w.alloc (.cells #[] 22)).heap.size = w.heap.size + 1 := by rw [World.size_alloc]
  have hbx : BoxAt ((w.alloc (.cells #[] 22)).alloc (.cells #[.slice (some ⟨w.heap.size, 0, none⟩) 0 0] 31)) (w.heap.size + 1) 31 (.slice (some ⟨w.heap.size, 0, none⟩) 0 0) := by
    rw [← hq1]; exact heap_alloc_new _ _
  have hb0 : Below w.heap.size w w1 := ((below_alloc w _).alloc (by simp) _).trans (hb1.mono (by rw [hq2]; omega))
  have hbx1 := hbx.below hb1
  have hou := Own.below (Own.below (own_outer_empty w) (below_alloc _ (.cells #[.slice (some ⟨w.heap.size, 0, none⟩) 0 0] 31))) hb1
  rw [hq2] at ho1 hs1
  have hG : GrowAll w1 w.heap.size w1.heap.size (w.heap.size + 1) (w.heap.size + 2) n (List.replicate n 0) [] :=
    ⟨OwnInts.mono ho1 (by omega), by omega, by omega, by omega, by omega, Nat.le_refl _, _, _, hbx1, hou, Rows.nil _ _ _⟩
  have hG' := Lib.hid hG
  have h4 : 4 ^ n ≤ 4 ^ 10 := Nat.pow_le_pow_right (by omega) hn
  have h4' := Lib.hid h4
  clear hG hbx hbx1 hou hq1 hq2 ho1 hs1 hb1 h4
  go_wp2_with fail
  refine grow_all n w.heap.size w1.heap.size (w.heap.size + 1) (w.heap.size + 2) n 1 k _ _ [] (List.replicate n 0) [] _ _ rfl rfl hk1 hk4 hn hn1 (by simp) (by simp) (by simp) (.inl ⟨rfl, rfl⟩) (by simp) hG'.out (by have := h4'.out; simp; omega) ?_
  intro w2 cur2 _ _ hw2 b2
  obtain ⟨vo, us, hbox, hout, hrows⟩ := hw2.box
  have hsz := hw2.size
  have hBR := hw2.BR
  have hcell := hbox.cell
  obtain ⟨ao, co, rfl, _, _, _⟩ := Own.form hout
  have hv : Hid (OwnRows w2 w.heap.size w2.heap.size (.slice ao us.length co) (Words.necks k n)) := Lib.hid (by
    have h := (hrows.mono hBR (Nat.le_refl _)).whole hout hout.inBlk
    rw [List.nil_append, Words.vis_necks] at h
    exact h)
  have hb2 := hb0.trans b2
  have h3 := Lib.hid (H.out _ w2 hv.out hb2)
  clear hw2 hrows hout hbox
  go_wp2_with fail
  exact h3.out
end Go.Proofs.Ytmlmpneikhdgcaa
