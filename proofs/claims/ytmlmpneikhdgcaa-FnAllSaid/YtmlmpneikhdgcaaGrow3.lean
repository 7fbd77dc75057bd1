/-
  'grow', when it seeks the next necklace.
-/
import Derived.Test.YtmlmpneikhdgcaaNecks
set_option linter.unusedVariables false
namespace Go.Proofs.Ytmlmpneikhdgcaa
open Go.RowKit

/-- What 'NextNecklace' has in memory while it grows words: the word, the box that is still nil, the bound. -/
structure GrowNext (w0 w : World) (vb : Value) (bnd : List Int) (b g n : Nat) (cur : List Int) : Prop where
  word : OwnInts w w0.heap.size (.slice (some ⟨g, 0, none⟩) n n) cur
  Bb : w0.heap.size ≤ b
  box : BoxAt w b 22 (.slice none 0 0)
  bound : IntsAt w0 vb bnd
  blen : bnd.length = n
  low : Below w0.heap.size w0 w
theorem GrowNext.set {w0 w : World} {vb : Value} {bnd : List Int} {b g n : Nat} {cur : List Int} (h : GrowNext w0 w vb bnd b g n cur) (i : Nat) (x : Int) (hn : 1 ≤ n) : GrowNext w0 (w.setCell ⟨g, i, none⟩ (.int .i64 x)) vb bnd b g n (cur.set i x) := by
  have hg := grown_set w g i (.int .i64 x)
  have hB := (Own.lt h.word rfl).1
  exact ⟨OwnInts.set h.word i x, h.Bb, h.box.grown hg (h.box.apart h.word (by decide)), h.bound, h.blen, h.low.grown hg h.low.size (fun k hk => by cases hk; exact hB)⟩
theorem GrowNext.at {w0 w : World} {vb : Value} {bnd : List Int} {b g n : Nat} {cur : List Int} (h : GrowNext w0 w vb bnd b g n cur) : IntsAt w vb bnd := h.bound.below h.low
set_option maxHeartbeats 800000 in
theorem see_next {w0 w : World} {vb : Value} {bnd : List Int} {b g n : Nat} {cur : List Int} {Q : Ending → World → Prop} (hw : GrowNext w0 w vb bnd b g n cur) (hn : n ≤ 10) (hc : cur.length = n)
    (hQ : ∀ v w', OwnInts w' w0.heap.size v cur → BoxAt w' b 22 v → Below w0.heap.size w0 w' → Q (.returned (.bool false)) w') :
    Calls Try.prog 55 #[.slice (some ⟨g, 0, none⟩) n n, .pointer (some ⟨b, 0, none⟩)] w Q := by
  have H := Lib.hid hQ; clear hQ
  have hcw : IntsAt w (.slice (some ⟨g, 0, none⟩) n n) cur := OwnInts.at hw.word
  have hBb := hw.Bb
  have hbox := hw.box
  have hlow := hw.low
  clear hw
  go_enter Try.func55, Try.ntmps55
  go_wp2_with fail
  refine Clone_c hcw (by omega) ?_
  intro v2 w2 o2 b2
  obtain ⟨ao2, ca2, rfl, _, _, _⟩ := Own.form o2
  have hbox2 := hbox.below b2
  have hcell := hbox2.cell
  have hfro := hbox2.frozen
  have hls := hlow.size
  have o2' := Own.mono o2 hls
  have h3 := Lib.hid (H.out _ _ (Own.setOther o2' (.slice ao2 (ints cur).length ca2) (hbox2.apart o2' (by decide))) (hbox2.set _) ((hlow.trans (b2.mono hls)).setCell hBb _))
  clear o2'
  go_wp2_with fail
  exact h3.out
theorem Words.visTo_pre (k : Nat) (b : List Int) (r : Nat) (pre : List Int) (over : Bool) {x : Nat} : ∀ {y : Nat}, x ≤ y → ∃ s, Words.visTo k b r pre over y = Words.visTo k b r pre over x ++ s
  | 0, h => ⟨[], by obtain rfl : x = 0 := by omega
                    simp⟩
  | y + 1, h => by
    by_cases e : x = y + 1
    · exact ⟨[], by rw [e, List.append_nil]⟩
    · obtain ⟨s, hs⟩ := Words.visTo_pre k b r pre over (x := x) (y := y) (by omega)
      exact ⟨s ++ Words.vis k b r (pre ++ [(y : Int)]) over, by rw [Words.visTo_step, hs, List.append_assoc]⟩
end Go.Proofs.Ytmlmpneikhdgcaa
