/-
  How many colorings of a solid there are, and the laws on them.
-/
import Derived.Test.YtdjdagcgodpgdaaColo
import Derived.Test.YtdjdagcgodpgdaaSolI
import Derived.Test.YtdjdagcgodpgdaaLaw
set_option linter.unusedVariables false
namespace Go.Proofs.Ytdjdagcgodpgdaa
open Go.RowKit

def Perms.cnt (k : Int) (m : Bool) (c : Int) : Int := Perms.colO (Perms.solW k m) c
theorem Perms.col_nil (c : Int) : Perms.colO [] c = -1 := by
  unfold Perms.colO
  have h : Perms.grpB [] = false := by decide
  rw [h, if_neg (by simp)]
theorem Perms.cnt_bad {k : Int} {m : Bool} (h : Perms.solB k m = false) (c : Int) : Perms.cnt k m c = -1 := by
  unfold Perms.cnt Perms.solW
  unfold Perms.solB at h
  cases e : Perms.solO k m with
  | none => exact Perms.col_nil c
  | some x => rw [e] at h; cases h
theorem Perms.sol_grp {k : Int} (hk : 1 ≤ k ∧ k ≤ 4) (m : Bool) : Perms.grpB (Perms.solW k m) = true := by
  obtain rfl | rfl | rfl | rfl : k = 1 ∨ k = 2 ∨ k = 3 ∨ k = 4 := by omega
  all_goals (cases m <;> decide +kernel)
theorem Perms.cnt_neg (k : Int) (m : Bool) (c : Int) : Perms.cnt k m c < 0 ↔ ¬ ((1 ≤ k ∧ k ≤ 4) ∧ 0 ≤ c ∧ c ≤ 4) := by
  by_cases hk : 1 ≤ k ∧ k ≤ 4
  · have hg := Perms.sol_grp hk m
    by_cases hc : 0 ≤ c ∧ c ≤ 4
    · have e : Perms.cnt k m c = Perms.sumTo (Perms.solW k m) c (Perms.solW k m).length / (Perms.solW k m).length := by unfold Perms.cnt Perms.colO; rw [if_pos ⟨hg, hc⟩]
      have := Int.ediv_nonneg (Perms.sum_bd (Perms.solW k m) hc.1 hc.2 (Perms.solW k m).length).1 (show (0 : Int) ≤ (Perms.solW k m).length by omega)
      rw [e]
      constructor
      · intro h; omega
      · intro h; exact absurd ⟨hk, hc⟩ h
    · have e : Perms.cnt k m c = -1 := by unfold Perms.cnt Perms.colO; rw [if_neg (fun h => hc h.2)]
      rw [e]
      exact ⟨fun _ h => hc h.2, fun _ => by decide⟩
  · have e : Perms.cnt k m c = -1 := Perms.cnt_bad (by unfold Perms.solB Perms.solO; rw [if_neg hk]; rfl) c
    rw [e]
    exact ⟨fun _ h => hk h.1, fun _ => by decide⟩
theorem Perms.cnt_bd (k : Int) (m : Bool) (c : Int) : -1 ≤ Perms.cnt k m c ∧ Perms.cnt k m c ≤ 125829120 := by
  unfold Perms.cnt Perms.colO
  by_cases h : Perms.grpB (Perms.solW k m) = true ∧ 0 ≤ c ∧ c ≤ 4
  · rw [if_pos h]
    obtain ⟨hl1, hl2, _, _⟩ := Perms.grpB_parts h.1
    have hb := Perms.sum_bd (Perms.solW k m) h.2.1 h.2.2 (Perms.solW k m).length
    have h1 := Int.ediv_nonneg hb.1 (show (0 : Int) ≤ (Perms.solW k m).length by omega)
    have h2 := Int.ediv_le_self ((Perms.solW k m).length : Int) hb.1
    omega
  · rw [if_neg h]; omega
theorem CountSolid_s {k c : Int} {m : Bool} {w : World} {Q : Ending → World → Prop}
    (hQ : ∀ w', Below w.heap.size w w' → Q (.returned (.int .i64 (Perms.cnt k m c))) w') :
    Calls Try.prog 13 #[.int .i64 k, .bool m, .int .i64 c] w Q := by
  have H := Lib.hid hQ; clear hQ
  go_enter Try.func13, Try.ntmps13
  go_wp2_with fail
  refine SolidGroup_s ?_
  intro v1 w1 o1 b1
  have o1' := Lib.hid o1.at
  obtain ⟨a1, c1, rfl, _, _, _⟩ := o1.form
  clear o1
  go_wp2_with fail
  refine CountColorings_s o1'.out ?_
  intro w2 b2
  have h3 := Lib.hid (H.out w2 (b1.trans (b2.mono b1.size)))
  unfold Perms.cnt at h3
  go_wp2_with fail
  exact h3.out
theorem CountSolid_i {k c : Int} {m : Bool} {w : World} {Q : Ending → World → Prop}
    (hQ : ∀ w', Below w.heap.size w w' → Q (.returned (.int .i64 (Perms.cnt k m c))) w') :
    Calls Try.prog 14 #[.int .i64 k, .bool m, .int .i64 c] w Q := by
  have H := Lib.hid hQ; clear hQ
  go_enter Try.func14, Try.ntmps14
  go_wp2_with fail
  refine SolidGroup_i ?_
  intro v1 w1 o1 b1
  have o1' := Lib.hid o1.at
  obtain ⟨a1, c1, rfl, _, _, _⟩ := o1.form
  clear o1
  cases hb : Perms.solB k m with
  | false =>
    have h2 := H.out w1 b1
    rw [Perms.cnt_bad hb c] at h2
    have h3 := Lib.hid h2
    clear hb h2
    go_wp2_with fail
    exact h3.out
  | true =>
    clear hb
    go_wp2_with fail
    refine CountColorings_i o1'.out ?_
    intro w2 b2
    have h3 := Lib.hid (H.out w2 (b1.trans (b2.mono b1.size)))
    unfold Perms.cnt at h3
    go_wp2_with fail
    exact h3.out
def Perms.hnd (k c : Int) : Int := if (1 ≤ k ∧ k ≤ 4) ∧ 0 ≤ c ∧ c ≤ 4 then Perms.cnt k false c - Perms.cnt k true c else -1
theorem HandedSolids_s {k c : Int} {w : World} {Q : Ending → World → Prop}
    (hQ : ∀ w', Below w.heap.size w w' → Q (.returned (.int .i64 (Perms.hnd k c))) w') :
    Calls Try.prog 15 #[.int .i64 k, .int .i64 c] w Q := by
  have H := Lib.hid hQ; clear hQ
  have hn := Perms.cnt_neg k false c
  have d1 := Perms.cnt_bd k false c
  have d2 := Perms.cnt_bd k true c
  have hh : Perms.hnd k c = if (1 ≤ k ∧ k ≤ 4) ∧ 0 ≤ c ∧ c ≤ 4 then Perms.cnt k false c - Perms.cnt k true c else -1 := rfl
  obtain ⟨A, hA⟩ : ∃ A, A = Perms.cnt k false c := ⟨_, rfl⟩
  obtain ⟨B, hB⟩ : ∃ B, B = Perms.cnt k true c := ⟨_, rfl⟩
  rw [← hA] at hn hh d1
  rw [← hB] at hh d2
  have hA' := Lib.hid hA
  have hB' := Lib.hid hB
  by_cases hc : (1 ≤ k ∧ k ≤ 4) ∧ 0 ≤ c ∧ c ≤ 4
  · rw [if_pos hc] at hh
    have hA0 : 0 ≤ A := by have := (not_congr hn).2 (fun h => h hc); omega
    rw [hh] at H
    clear hA hB hh hn hc
    go_enter Try.func15, Try.ntmps15
    go_wp2_with fail
    refine CountSolid_s ?_
    intro w1 b1
    rw [← hA'.out]
    go_wp2_with fail
    refine CountSolid_s ?_
    intro w2 b2
    rw [← hB'.out]
    have h3 := Lib.hid (H.out w2 (b1.trans (b2.mono b1.size)))
    go_wp2_with fail
    exact h3.out
  · rw [if_neg hc] at hh
    have hA0 : A < 0 := hn.2 hc
    rw [hh] at H
    clear hA hB hh hn hc
    go_enter Try.func15, Try.ntmps15
    go_wp2_with fail
    refine CountSolid_s ?_
    intro w1 b1
    rw [← hA'.out]
    have h3 := Lib.hid (H.out w1 b1)
    go_wp2_with fail
    exact h3.out
theorem HandedSolids_i {k c : Int} {w : World} {Q : Ending → World → Prop}
    (hQ : ∀ w', Below w.heap.size w w' → Q (.returned (.int .i64 (Perms.hnd k c))) w') :
    Calls Try.prog 16 #[.int .i64 k, .int .i64 c] w Q := by
  have H := Lib.hid hQ; clear hQ
  have hn := Perms.cnt_neg k true c
  have d1 := Perms.cnt_bd k false c
  have d2 := Perms.cnt_bd k true c
  have hh : Perms.hnd k c = if (1 ≤ k ∧ k ≤ 4) ∧ 0 ≤ c ∧ c ≤ 4 then Perms.cnt k false c - Perms.cnt k true c else -1 := rfl
  obtain ⟨A, hA⟩ : ∃ A, A = Perms.cnt k false c := ⟨_, rfl⟩
  obtain ⟨B, hB⟩ : ∃ B, B = Perms.cnt k true c := ⟨_, rfl⟩
  rw [← hA] at hh d1
  rw [← hB] at hn hh d2
  have hA' := Lib.hid hA
  have hB' := Lib.hid hB
  by_cases hc : (1 ≤ k ∧ k ≤ 4) ∧ 0 ≤ c ∧ c ≤ 4
  · rw [if_pos hc] at hh
    have hA0 : 0 ≤ B := by have := (not_congr hn).2 (fun h => h hc); omega
    rw [hh] at H
    clear hA hB hh hn hc
    go_enter Try.func16, Try.ntmps16
    go_wp2_with fail
    refine CountSolid_i ?_
    intro w1 b1
    rw [← hB'.out]
    go_wp2_with fail
    refine CountSolid_i ?_
    intro w2 b2
    rw [← hA'.out]
    go_wp2_with fail
    refine CountSolid_i ?_
    intro w3 b3
    rw [← hB'.out]
    have b12 := b1.trans (b2.mono b1.size)
    have h3 := Lib.hid (H.out w3 (b12.trans (b3.mono b12.size)))
    go_wp2_with fail
    exact h3.out
  · rw [if_neg hc] at hh
    have hA0 : B < 0 := hn.2 hc
    rw [hh] at H
    clear hA hB hh hn hc
    go_enter Try.func16, Try.ntmps16
    go_wp2_with fail
    refine CountSolid_i ?_
    intro w1 b1
    rw [← hB'.out]
    have h3 := Lib.hid (H.out w1 b1)
    go_wp2_with fail
    exact h3.out
end Go.Proofs.Ytdjdagcgodpgdaa
