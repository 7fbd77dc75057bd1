/-
  The words of Lyndon and the bracelets, listed by the program.
-/
import Derived.Test.YtmlmpneikhdgcaaEnum0
import Derived.Test.YtmlmpneikhdgcaaDel
import Derived.Test.YtmlmpneikhdgcaaNecks
import Derived.Test.YtmlmpneikhdgcaaIsm
set_option linter.unusedVariables false
namespace Go.Proofs.Ytmlmpneikhdgcaa
open Go.RowKit

set_option maxHeartbeats 800000 in
theorem lyndonSays {m b B : Nat} {w0 : World} {xss : List (List Int)} (hbx : BoxAt w0 b 3 (.int .i64 m)) (hb : b < B) (hl : ∀ xs ∈ xss, xs.length ≤ 10) : Says 69 #[.pointer (some ⟨b, 0, none⟩)] B w0 xss (fun xs => !decide (Words.perI xs = m)) := by
  intro wr u xs Q hB hm ha hQ
  have H := Lib.hid hQ; clear hQ
  have hbr : BoxAt wr b 3 (.int .i64 m) := by
    unfold BoxAt at hbx ⊢
    rw [hB.block b hb]; exact hbx
  have hcell := hbr.cell
  have hl2 := hl xs hm
  have ha' := Lib.hid ha
  obtain ⟨au, cu, rfl, _, _, _⟩ := ha.form
  clear ha hl hm hB
  show Calls Try.prog 69 #[.slice au xs.length cu, .pointer (some ⟨b, 0, none⟩)] wr Q
  go_enter Try.func69, Try.ntmps69
  go_wp2_with fail
  have haw : IntsAt wr.drew (.slice au xs.length cu) xs := IntsAt.drawn ha'.out (Drawn.one wr 1)
  go_region_law (first
    | (go_simp; go_at_call 35; refine PeriodOf_i haw (by omega) ?_; intro w1 b1; have bw1 : Below wr.heap.size wr w1 := ((Drawn.one wr 1).below _).trans b1; have hc1 := (hbr.below bw1).cell))
  all_goals
    have h3 : Q (.returned (.bool (Words.perI xs != (m : Int)))) w1 := boolq' (H.out w1 bw1) (by rw [Bool.eq_iff_iff]; simp)
    go_wp2_with fail
    go_ret
    exact h3
set_option maxHeartbeats 1600000 in
theorem LyndonWords_i {n k : Int} {w : World} {Q : Ending → World → Prop}
    (hQ : ∀ v w', OwnRows w' w.heap.size w'.heap.size v (Words.enumO Words.lynB n k) → Below w.heap.size w w' → Q (.returned (.tuple #[v, .bool (Words.smallN n k)])) w') :
    Calls Try.prog 24 #[.int .i64 n, .int .i64 k] w Q := by
  have H := Lib.hid hQ; clear hQ
  have none' : ∀ w', Below w.heap.size w w' → Words.smallN n k = false → Q (.returned (.tuple #[.slice none 0 0, .bool false])) w' := fun w' hb e => by
    have := H.out (.slice none 0 0) w' (by unfold Words.enumO; rw [if_neg (by rw [e]; simp)]; exact OwnRows.nil _ _ _) hb
    rw [e] at this; exact this
  have none'' := Lib.hid none'
  clear none'
  by_cases hn : 1 ≤ n ∧ n ≤ 10
  rotate_left
  · have hd : Hid (decide (1 ≤ n ∧ n ≤ 10) = false) := Lib.hid (decide_eq_false hn)
    have e : Hid (Words.smallN n k = false) := Lib.hid (by unfold Words.smallN; rw [hd.out]; simp)
    clear hn
    go_enter Try.func24, Try.ntmps24
    go_wp2_with (go_at_call 60; refine isLength_i ?_; rw [hd.out])
    all_goals exact none''.out _ (below_alloc w _) e.out
  have hd : Hid (decide (1 ≤ n ∧ n ≤ 10) = true) := Lib.hid (decide_eq_true hn)
  obtain ⟨hn1, hn2⟩ := hn
  have hsm : Hid (Words.smallN n k = (decide (1 ≤ k ∧ k ≤ 4) && decide (Nums.pw k n ≤ 1024))) := Lib.hid (by unfold Words.smallN; rw [hd.out, Bool.true_and])
  go_enter Try.func24, Try.ntmps24
  go_wp2_with (go_at_call 60; refine isLength_i ?_; rw [hd.out])
  refine isSmall_i (by omega) hn2 ?_
  rw [← hsm.out]
  by_cases hs0 : Words.smallN n k = true
  rotate_left
  · have hf : Hid (Words.smallN n k = false) := Lib.hid (by simpa using hs0)
    rw [hf.out]
    clear hs0
    go_wp2_with fail
    exact none''.out _ (below_alloc w _) hf.out
  have hs := Lib.hid hs0
  have hs2 := hs0
  unfold Words.smallN at hs2
  simp only [Bool.and_eq_true, decide_eq_true_eq] at hs2
  obtain ⟨_, ⟨hk1, hk4⟩, _⟩ := hs2
  obtain ⟨n0, rfl⟩ : ∃ n0 : Nat, n = n0 := ⟨n.toNat, by omega⟩
  rw [hs.out]
  have Hok : Hid (∀ v w', OwnRows w' w.heap.size w'.heap.size v (Words.enumW Words.lynB n0 k) → Below w.heap.size w w' → Q (.returned (.tuple #[v, .bool true])) w') := Lib.hid fun v w' ho hb => by
    have h2 := H.out v w' (by unfold Words.enumO; rw [if_pos hs.out, Int.toNat_natCast]; exact ho) hb
    rwa [hs.out] at h2
  clear hs0
  have hbx : BoxAt (w.alloc (.cells #[.int .i64 n0] 3)) w.heap.size 3 (.int .i64 n0) := heap_alloc_new _ _
  go_wp2_with fail
  refine necklaces_i hk1 hk4 (by omega) (by omega) ?_
  intro v1 w1 o1 b1
  have hlen : ∀ xs ∈ Words.necks k n0, xs.length ≤ 10 := fun xs hxs => by have := (Words.necksN_mem (k := k.toNat) hxs).1; omega
  have hbx1 := hbx.below b1
  have hq1 : (w.alloc (.cells #[.int .i64 n0] 3)).heap.size = w.heap.size + 1 := by rw [World.size_alloc]
  have hS := Lib.hid (lyndonSays (B := w.heap.size + 1) hbx1 (by omega) hlen)
  have hb1 : Below w.heap.size w w1 := (below_alloc w _).trans (b1.mono (by rw [hq1]; omega))
  have hsz : w.heap.size + 1 ≤ w1.heap.size := by have := b1.size; omega
  rw [hq1] at o1
  clear hbx hbx1 hq1 b1
  have o1' := Lib.hid o1
  obtain ⟨ao, co, rfl, _, _, _⟩ := o1.form
  clear o1 hlen
  have hsum : Hid ((Words.necks k n0).filter (fun xs => !(fun xs => !decide (Words.perI xs = n0)) xs) = Words.enumW Words.lynB n0 k) := Lib.hid (Words.enum_lyn (by omega) (by omega) hk1 hk4)
  go_wp2_with fail
  refine delete_c (fun args w => enters_of Try.func69 (by kernel_rfl) rfl args w) o1'.out hsz hS.out ?_
  intro v2 w2 o2 b2
  rw [hsum.out] at o2
  have hb2 : Below w.heap.size w w2 := hb1.trans (b2.mono (by omega))
  have h2 := Hok.out v2 w2 (OwnRows.mono o2 (by omega) (Nat.le_refl _)) hb2
  have h3 := Lib.hid h2
  clear h2 o2
  go_wp2_with fail
  exact h3.out
set_option maxHeartbeats 800000 in
theorem braceletSays {B : Nat} {w0 : World} {xss : List (List Int)} (hl : ∀ xs ∈ xss, xs.length ≤ 10) : Says 71 #[] B w0 xss (fun xs => !Words.brB xs) := by
  intro wr u xs Q hB hm ha hQ
  have H := Lib.hid hQ; clear hQ
  have hl2 := hl xs hm
  have ha' := Lib.hid ha
  obtain ⟨au, cu, rfl, _, _, _⟩ := ha.form
  clear ha hl hm hB
  show Calls Try.prog 71 #[.slice au xs.length cu] wr Q
  go_enter Try.func71, Try.ntmps71
  go_wp2_with fail
  refine IsBracelet_i ha'.out (by omega) ?_
  intro w1 b1
  go_wp2_with fail
  exact H.out _ b1
set_option maxHeartbeats 1600000 in
theorem BraceletsOf_i {n k : Int} {w : World} {Q : Ending → World → Prop}
    (hQ : ∀ v w', OwnRows w' w.heap.size w'.heap.size v (Words.enumO Words.brB n k) → Below w.heap.size w w' → Q (.returned (.tuple #[v, .bool (Words.smallN n k)])) w') :
    Calls Try.prog 29 #[.int .i64 n, .int .i64 k] w Q := by
  have H := Lib.hid hQ; clear hQ
  have none' : ∀ w', Below w.heap.size w w' → Words.smallN n k = false → Q (.returned (.tuple #[.slice none 0 0, .bool false])) w' := fun w' hb e => by
    have := H.out (.slice none 0 0) w' (by unfold Words.enumO; rw [if_neg (by rw [e]; simp)]; exact OwnRows.nil _ _ _) hb
    rw [e] at this; exact this
  have none'' := Lib.hid none'
  clear none'
  by_cases hn : 1 ≤ n ∧ n ≤ 10
  rotate_left
  · have hd : Hid (decide (1 ≤ n ∧ n ≤ 10) = false) := Lib.hid (decide_eq_false hn)
    have e : Hid (Words.smallN n k = false) := Lib.hid (by unfold Words.smallN; rw [hd.out]; simp)
    clear hn
    go_enter Try.func29, Try.ntmps29
    go_wp2_with (go_at_call 60; refine isLength_i ?_; rw [hd.out])
    all_goals exact none''.out _ (Below.refl _ _) e.out
  have hd : Hid (decide (1 ≤ n ∧ n ≤ 10) = true) := Lib.hid (decide_eq_true hn)
  obtain ⟨hn1, hn2⟩ := hn
  have hsm : Hid (Words.smallN n k = (decide (1 ≤ k ∧ k ≤ 4) && decide (Nums.pw k n ≤ 1024))) := Lib.hid (by unfold Words.smallN; rw [hd.out, Bool.true_and])
  go_enter Try.func29, Try.ntmps29
  go_wp2_with (go_at_call 60; refine isLength_i ?_; rw [hd.out])
  refine isSmall_i (by omega) hn2 ?_
  rw [← hsm.out]
  by_cases hs0 : Words.smallN n k = true
  rotate_left
  · have hf : Hid (Words.smallN n k = false) := Lib.hid (by simpa using hs0)
    rw [hf.out]
    clear hs0
    go_wp2_with fail
    exact none''.out _ (Below.refl _ _) hf.out
  have hs := Lib.hid hs0
  have hs2 := hs0
  unfold Words.smallN at hs2
  simp only [Bool.and_eq_true, decide_eq_true_eq] at hs2
  obtain ⟨_, ⟨hk1, hk4⟩, _⟩ := hs2
  obtain ⟨n0, rfl⟩ : ∃ n0 : Nat, n = n0 := ⟨n.toNat, by omega⟩
  rw [hs.out]
  have Hok : Hid (∀ v w', OwnRows w' w.heap.size w'.heap.size v (Words.enumW Words.brB n0 k) → Below w.heap.size w w' → Q (.returned (.tuple #[v, .bool true])) w') := Lib.hid fun v w' ho hb => by
    have h2 := H.out v w' (by unfold Words.enumO; rw [if_pos hs.out, Int.toNat_natCast]; exact ho) hb
    rwa [hs.out] at h2
  clear hs0
  go_wp2_with fail
  refine necklaces_i hk1 hk4 (by omega) (by omega) ?_
  intro v1 w1 o1 b1
  have hlen : ∀ xs ∈ Words.necks k n0, xs.length ≤ 10 := fun xs hxs => by have := (Words.necksN_mem (k := k.toNat) hxs).1; omega
  have hS := Lib.hid (braceletSays (B := w.heap.size) (w0 := w1) hlen)
  have hb1 : Below w.heap.size w w1 := b1
  have hsz : w.heap.size ≤ w1.heap.size := b1.size
  clear b1
  have o1' := Lib.hid o1
  obtain ⟨ao, co, rfl, _, _, _⟩ := o1.form
  clear o1 hlen
  have hsum : Hid ((Words.necks k n0).filter (fun xs => !(fun xs => !Words.brB xs) xs) = Words.enumW Words.brB n0 k) := Lib.hid (Words.enum_brac (by omega) (by omega) hk1 hk4)
  go_wp2_with fail
  refine delete_c (fun args w => enters_of Try.func71 (by kernel_rfl) rfl args w) o1'.out hsz hS.out ?_
  intro v2 w2 o2 b2
  rw [hsum.out] at o2
  have hb2 : Below w.heap.size w w2 := hb1.trans (b2.mono (by omega))
  have h2 := Hok.out v2 w2 (OwnRows.mono o2 (by omega) (Nat.le_refl _)) hb2
  have h3 := Lib.hid h2
  clear h2 o2
  go_wp2_with fail
  exact h3.out
end Go.Proofs.Ytmlmpneikhdgcaa
