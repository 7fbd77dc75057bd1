/-
  The patterns of colors on a solid: both sides.
-/
import Derived.Test.YtdjdagcgodpgdaaGreatSolI
import Derived.Test.YtdjdagcgodpgdaaGreatPtn3
set_option linter.unusedVariables false
namespace Go.Proofs.YtdjdagcgodpgdaaGreat
open Go.RowKit

theorem Perms.sol_none {k : Int} {m : Bool} (h : Perms.solB k m = false) : Perms.solW k m = [] := by
  unfold Perms.solW
  unfold Perms.solB at h
  cases e : Perms.solO k m with
  | none => rfl
  | some x => rw [e] at h; cases h
theorem SolidPatterns_s {k c : Int} {w : World} {Q : Ending → World → Prop}
    (hQ : ∀ v w', OwnRows w' w.heap.size w'.heap.size v (Perms.patsW (Perms.solW k false) c) → Below w.heap.size w w' → Q (.returned (.tuple #[v, .bool (Perms.smallB (Perms.solW k false) c)])) w') :
    Calls Tryz.prog 5 #[.int .i64 k, .int .i64 c] w Q := by
  have H := Lib.hid hQ; clear hQ
  go_enter Tryz.func5, Tryz.ntmps5
  go_wp2_with fail
  refine SolidGroup_s ?_
  intro v1 w1 o1 b1
  have o1' := Lib.hid o1.at
  obtain ⟨a1, c1, rfl, _, _, _⟩ := o1.form
  clear o1
  go_wp2_with fail
  refine PatternsOf_s o1'.out ?_
  intro v2 w2 o2 b2
  have h3 := Lib.hid (H.out v2 w2 (OwnRows.mono o2 b1.size (Nat.le_refl _)) (b1.trans (b2.mono b1.size)))
  obtain ⟨a2, c2, rfl, _, _, _⟩ := o2.form
  go_wp2_with fail
  exact h3.out
theorem SolidPatterns_i {k c : Int} {w : World} {Q : Ending → World → Prop}
    (hQ : ∀ v w', OwnRows w' w.heap.size w'.heap.size v (Perms.patsW (Perms.solW k false) c) → Below w.heap.size w w' → Q (.returned (.tuple #[v, .bool (Perms.smallB (Perms.solW k false) c)])) w') :
    Calls Tryz.prog 6 #[.int .i64 k, .int .i64 c] w Q := by
  have H := Lib.hid hQ; clear hQ
  go_enter Tryz.func6, Tryz.ntmps6
  go_wp2_with fail
  refine SolidGroup_i ?_
  intro v1 w1 o1 b1
  have o1' := Lib.hid o1.at
  obtain ⟨a1, c1, rfl, _, _, _⟩ := o1.form
  clear o1
  cases hb : Perms.solB k false with
  | false =>
    have e1 : Perms.patsW (Perms.solW k false) c = [] := by rw [Perms.sol_none hb]; rfl
    have e2 : Perms.smallB (Perms.solW k false) c = false := by rw [Perms.sol_none hb]; rfl
    have h2 := H.out (.slice none 0 0) w1 (by rw [e1]; exact OwnRows.nil _ _ _) b1
    rw [e2] at h2
    have h3 := Lib.hid h2
    clear hb h2 e1 e2
    go_wp2_with fail
    exact h3.out
  | true =>
    clear hb
    go_wp2_with fail
    refine PatternsOf_i o1'.out ?_
    intro v2 w2 o2 b2
    have h3 := Lib.hid (H.out v2 w2 (OwnRows.mono o2 b1.size (Nat.le_refl _)) (b1.trans (b2.mono b1.size)))
    obtain ⟨a2, c2, rfl, _, _, _⟩ := o2.form
    go_wp2_with fail
    exact h3.out
end Go.Proofs.YtdjdagcgodpgdaaGreat
