/-
  The factors of Lyndon of a word.
-/
import Derived.Test.YtnghikcmdihagaaBrace
import Derived.Test.YtnghikcmdihagaaLynFs
import Derived.Test.YtnghikcmdihagaaMemT
import Derived.Test.YtnghikcmdihagaaLawS
set_option linter.unusedVariables false
namespace Go.Proofs.Ytnghikcmdihagaa
open Go.RowKit

set_option maxHeartbeats 1600000 in
theorem LyndonFactors_i {va : Value} {xs : List Int} {w : World} {Q : Ending → World → Prop} (ha : IntsAt w va xs) (hn : xs.length ≤ 1048576)
    (hQ : ∀ v w', OwnRows w' w.heap.size w'.heap.size v (Words.facW xs) → Below w.heap.size w w' → Q (.returned (.tuple #[v, .bool (Words.okW xs)])) w') :
    Calls Try.prog 42 #[va] w Q := by
  have H := Lib.hid hQ; clear hQ
  have ha0 := Lib.hid ha
  obtain ⟨aa, ca, rfl, la, lca, cca⟩ := ha.form
  go_enter Try.func42, Try.ntmps42
  go_wp2_with fail
  refine ColoringOk_i ha0.out ?_
  by_cases hok : Words.okW xs = true
  rotate_left
  · have hok2 : Words.okW xs = false := by simpa using hok
    have h2 := H.out (.slice none 0 0) w (by unfold Words.facW; rw [if_neg hok]; exact OwnRows.nil _ _ _) (Below.refl _ _)
    rw [hok2] at h2
    have h3 := Lib.hid h2
    rw [hok2]
    clear h2 hok hok2
    go_wp2_with fail
    exact h3.out
  have hok' := Lib.hid hok
  obtain ⟨hl1, hl2⟩ := Words.okW_len hok
  have hfw : Hid (Words.facW xs = Words.facs xs.length xs) := Lib.hid (by unfold Words.facW; rw [if_pos hok])
  rw [hok]
  clear hok
  go_wp2_with fail
  go_loopg [4, 5] xs.length (fun gg b i wr => ∃ (j : Nat) (acc : List (List Int)), i = .int .i64 j ∧ Below w.heap.size w wr ∧ OwnRows wr w.heap.size wr.heap.size b acc ∧ Hid (Words.facs xs.length xs = acc ++ Words.facs xs.length (xs.drop j)) ∧ acc.length ≤ j ∧ j ≤ xs.length ∧ xs.length ≤ j + gg)
  case atStart => exact ⟨0, [], rfl, below_alloc w _, (own_rows_empty w).tight, Lib.hid (by simp), by simp, by omega, by omega⟩
  case round =>
    obtain ⟨j, acc, rfl, hbw, ho, hfa, hal, hjn, hm2⟩ := hrel
    by_cases hj : j < xs.length
    · have i1 : (j : Int) < xs.length := by omega
      obtain ⟨ys, hys⟩ : ∃ ys, ys = xs.drop j := ⟨_, rfl⟩
      have hyl : ys.length = xs.length - j := by rw [hys, List.length_drop]
      have hy0 : ys ≠ [] := by intro e; rw [e] at hyl; simp at hyl; omega
      have hst : Hid (Words.facs xs.length xs = acc ++ [ys.take (Words.lenTo ys ys.length)] ++ Words.facs xs.length (xs.drop (j + Words.lenTo ys ys.length))) := Lib.hid (by
        rw [hfa.out, ← hys, Words.facs_step (by omega) hy0, hys, List.drop_drop]; simp)
      have hl1' : Hid (Words.lynB (ys.take 1) = true) := Lib.hid (by
        obtain ⟨x, h1, h2, h3⟩ := Words.okW_tail hok'.out hj
        rw [hys, h1]; exact Words.lyn_one h2 h3)
      have hlp := Lib.hid (Words.lenTo_pos ys ys.length)
      have hll := Lib.hid (Words.lenTo_le ys ys.length (by omega))
      obtain ⟨ao, co, rfl, lo, _, _⟩ := ho.form
      have hatu : ∀ m, m ≤ ys.length → IntsAt w (.slice (Option.map (fun x => x.add j) aa) m (ca - j)) (ys.take m) := fun m hm => by
        have h := (ha.tail hjn).upto (k := m) (by rw [List.length_drop]; omega)
        rwa [if_neg (by omega), ← hys] at h
      have hys' := Lib.hid hys
      clear hys hy0
      obtain ⟨wo, hwo⟩ : ∃ wo : World, wo = wr := ⟨_, rfl⟩
      subst hwo
      obtain ⟨gi, hgi⟩ : ∃ g' : Nat, g' = gk := ⟨_, rfl⟩
      subst hgi
      go_wp2_with fail
      go_loopg [6] ys.length (fun gg e wr => ∃ m q : Nat, e = .int .i64 q ∧ q = j + m ∧ 1 ≤ m ∧ m ≤ ys.length ∧ Below wo.heap.size wo wr ∧ Hid (Words.lenTo ys ys.length = Words.lenTo ys m) ∧ m ≤ gg)
      case atStart => exact ⟨ys.length, xs.length, rfl, by omega, by omega, Nat.le_refl _, Below.refl _ _, Lib.hid rfl, Nat.le_refl _⟩
      case round =>
        obtain ⟨m, q, rfl, hq, hm0, hm1, hbo, hle, hmg⟩ := hrel
        have hqc : q ≤ ca := by omega
        have hjq : j ≤ q := by omega
        have hbr : Below w.heap.size w wr := hbw.trans (hbo.mono hbw.size)
        have hsub : IntsAt wr (.slice (Option.map (fun x => x.add j) aa) m (ca - j)) (ys.take m) := IntsAt.below (hatu m hm1) hbr
        have hml : (ys.take m).length = m := by rw [List.length_take]; omega
        have hml' := Lib.hid hml
        clear hml
        go_wp2_with fail
        refine IsLyndon_i hsub (by rw [hml'.out]; omega) ?_
        intro w2 b2
        have hb2 : Below wo.heap.size wo w2 := hbo.trans (b2.mono hbo.size)
        have hbw2 : Below w.heap.size w w2 := hbw.trans (hb2.mono hbw.size)
        by_cases hly : Words.lynB (ys.take m) = true
        · have hle2 : Hid (Words.lenTo ys ys.length = m) := Lib.hid (by
            rw [hle.out]
            obtain ⟨m', rfl⟩ : ∃ m', m = m' + 1 := ⟨m - 1, by omega⟩
            simp only [Words.lenTo]
            rw [if_pos hly])
          rw [hly]
          clear hly
          have hst2 := hst.out
          rw [hle2.out] at hst2
          have hst3 := Lib.hid hst2
          clear hst2
          have hsub2 : IntsAt w2 (.slice (Option.map (fun x => x.add j) aa) m (ca - j)) (ys.take m) := IntsAt.below (hatu m hm1) hbw2
          go_wp2_with fail
          refine Clone_c hsub2 (by rw [hml'.out]; omega) ?_
          intro v4 w4 o4 b4
          obtain ⟨ao4, ca4, rfl, la4, lc4, cc4⟩ := Own.form o4
          have hs4 := b4.size
          have hb4 : Below wo.heap.size wo w4 := hb2.trans (b4.mono hb2.size)
          have ho4 := ho.below hb4
          have hs0 := hbw.size
          have hs2 := hb2.size
          have o4' : OwnInts w4 w.heap.size _ _ := Own.mono o4 (Nat.le_trans hs0 hs2)
          go_wp2_with (at_builtin; refine app_rows rfl (.tmp 25) (.tmp 31) rfl rfl (OwnRows.below ho4 (below_alloc w4 _)) rfl (cell_new _ _ _) (OwnInts.below o4' (below_alloc w4 _)) (fun b hb => Nat.le_trans hs2 (Own.lt o4 hb).1) (by omega) (by simp; omega) ?_; intro v5 w5 o5 t5)
          go_roundg (gi - 1)
          case measure => omega
          case rel =>
            exact ⟨j + m, acc ++ [ys.take m], by go_num, ((hbw.trans (hb4.mono hs0)).alloc (by omega) _).trans (t5.below (Nat.le_refl _) (by simp; omega)), o5, Lib.hid hst3.out, by simp; omega, by omega, by omega⟩
        · have hm2 : 2 ≤ m := by
            by_cases h1 : m = 1
            · subst h1; exact absurd hl1'.out hly
            · omega
          have hle2 : Hid (Words.lenTo ys ys.length = Words.lenTo ys (m - 1)) := Lib.hid (by
            rw [hle.out]
            obtain ⟨m', rfl⟩ : ∃ m', m = m' + 1 := ⟨m - 1, by omega⟩
            simp only [Words.lenTo]
            rw [if_neg hly]
            rfl)
          have hly2 : Words.lynB (ys.take m) = false := by simpa using hly
          rw [hly2]
          clear hly hly2
          go_wp2_with fail
          go_roundg (gk - 1)
          case measure => omega
          case rel => exact ⟨m - 1, q - 1, by go_num, by omega, by omega, by omega, hb2, hle2, by omega⟩
    · go_wp2_with fail
      have h2 := H.out _ wr (by rw [hfw.out, hfa.out, show xs.drop j = [] from List.drop_eq_nil_of_le (by omega), Words.facs_nil, List.append_nil]; exact ho) hbw
      rw [hok'.out] at h2
      have h3 := Lib.hid h2
      clear h2
      first | exact h3.out | (go_wp2_with fail; exact h3.out)
set_option maxHeartbeats 1600000 in
theorem LyndonFactors_s {va : Value} {xs : List Int} {w : World} {Q : Ending → World → Prop} (ha : IntsAt w va xs) (hn : xs.length ≤ 1048576)
    (hQ : ∀ v w', OwnRows w' w.heap.size w'.heap.size v (Words.facW xs) → Below w.heap.size w w' → Q (.returned (.tuple #[v, .bool (Words.okW xs)])) w') :
    Calls Try.prog 41 #[va] w Q := by
  have H := Lib.hid hQ; clear hQ
  have ha0 := Lib.hid ha
  obtain ⟨aa, ca, rfl, la, lca, cca⟩ := ha.form
  go_enter Try.func41, Try.ntmps41
  go_wp2_with fail
  refine ColoringOk_s ha0.out ?_
  by_cases hok : Words.okW xs = true
  rotate_left
  · have hok2 : Words.okW xs = false := by simpa using hok
    have h2 := H.out (.slice none 0 0) w (by unfold Words.facW; rw [if_neg hok]; exact OwnRows.nil _ _ _) (Below.refl _ _)
    rw [hok2] at h2
    have h3 := Lib.hid h2
    rw [hok2]
    clear h2 hok hok2
    go_wp2_with fail
    exact h3.out
  have hok' := Lib.hid hok
  obtain ⟨hl1, hl2⟩ := Words.okW_len hok
  have hfw : Hid (Words.facW xs = Words.facs xs.length xs) := Lib.hid (by unfold Words.facW; rw [if_pos hok])
  rw [hok]
  clear hok
  go_wp2_with fail
  go_loopg [4, 5] xs.length (fun gg b i wr => ∃ (j : Nat) (acc : List (List Int)), i = .int .i64 j ∧ Below w.heap.size w wr ∧ OwnRows wr w.heap.size wr.heap.size b acc ∧ Hid (Words.facs xs.length xs = acc ++ Words.facs xs.length (xs.drop j)) ∧ acc.length ≤ j ∧ j ≤ xs.length ∧ xs.length ≤ j + gg)
  case atStart => exact ⟨0, [], rfl, below_alloc w _, (own_rows_empty w).tight, Lib.hid (by simp), by simp, by omega, by omega⟩
  case round =>
    obtain ⟨j, acc, rfl, hbw, ho, hfa, hal, hjn, hm2⟩ := hrel
    by_cases hj : j < xs.length
    · have i1 : (j : Int) < xs.length := by omega
      obtain ⟨ys, hys⟩ : ∃ ys, ys = xs.drop j := ⟨_, rfl⟩
      have hyl : ys.length = xs.length - j := by rw [hys, List.length_drop]
      have hy0 : ys ≠ [] := by intro e; rw [e] at hyl; simp at hyl; omega
      have hst : Hid (Words.facs xs.length xs = acc ++ [ys.take (Words.lenTo ys ys.length)] ++ Words.facs xs.length (xs.drop (j + Words.lenTo ys ys.length))) := Lib.hid (by
        rw [hfa.out, ← hys, Words.facs_step (by omega) hy0, hys, List.drop_drop]; simp)
      have hl1' : Hid (Words.lynB (ys.take 1) = true) := Lib.hid (by
        obtain ⟨x, h1, h2, h3⟩ := Words.okW_tail hok'.out hj
        rw [hys, h1]; exact Words.lyn_one h2 h3)
      have hlp := Lib.hid (Words.lenTo_pos ys ys.length)
      have hll := Lib.hid (Words.lenTo_le ys ys.length (by omega))
      obtain ⟨ao, co, rfl, lo, _, _⟩ := ho.form
      have hatu : ∀ m, m ≤ ys.length → IntsAt w (.slice (Option.map (fun x => x.add j) aa) m (ca - j)) (ys.take m) := fun m hm => by
        have h := (ha.tail hjn).upto (k := m) (by rw [List.length_drop]; omega)
        rwa [if_neg (by omega), ← hys] at h
      have hys' := Lib.hid hys
      clear hys hy0
      obtain ⟨wo, hwo⟩ : ∃ wo : World, wo = wr := ⟨_, rfl⟩
      subst hwo
      obtain ⟨gi, hgi⟩ : ∃ g' : Nat, g' = gk := ⟨_, rfl⟩
      subst hgi
      go_wp2_with fail
      go_loopg [6, 7] ys.length (fun gg e tt wr => ∃ m q n : Nat, e = .int .i64 n ∧ tt = .int .i64 q ∧ q = j + m + 1 ∧ Hid (n = j + Words.lenTo ys m) ∧ 1 ≤ m ∧ m ≤ ys.length ∧ Below wo.heap.size wo wr ∧ ys.length ≤ m + gg)
      case atStart =>
        have h1 : Words.lenTo ys 1 = 1 := by simp only [Words.lenTo]; rw [if_pos hl1'.out]
        exact ⟨1, j + 2, j + 1, by go_num, by go_num, by omega, Lib.hid (by rw [h1]), by omega, by omega, Below.refl _ _, by omega⟩
      case round =>
        obtain ⟨m, q, n, rfl, rfl, hq, hne, hm0, hm1, hbo, hmg⟩ := hrel
        have hbr : Below w.heap.size w wr := hbw.trans (hbo.mono hbw.size)
        by_cases hmy : m < ys.length
        · have hqi : (q : Int) ≤ xs.length := by omega
          have hqc : q ≤ ca := by omega
          have hjq : j ≤ q := by omega
          have hqj : q - j = m + 1 := by omega
          have hsub : IntsAt wr (.slice (Option.map (fun x => x.add j) aa) (m + 1) (ca - j)) (ys.take (m + 1)) := IntsAt.below (hatu (m + 1) hmy) hbr
          have hml' : Hid ((ys.take (m + 1)).length = m + 1) := Lib.hid (by rw [List.length_take]; omega)
          have hst1 : Hid (Words.lenTo ys (m + 1) = if Words.lynB (ys.take (m + 1)) = true then m + 1 else Words.lenTo ys m) := Lib.hid rfl
          clear hq
          go_wp2_with fail
          refine IsLyndon_s hsub (by rw [hml'.out]; omega) ?_
          intro w2 b2
          have hb2 : Below wo.heap.size wo w2 := hbo.trans (b2.mono hbo.size)
          by_cases hly : Words.lynB (ys.take (m + 1)) = true
          · have hle2 : Hid (Words.lenTo ys (m + 1) = m + 1) := Lib.hid (by rw [hst1.out, if_pos hly])
            rw [hly]
            clear hly
            go_wp2_with fail
            go_roundg (gk - 1)
            case measure => omega
            case rel => exact ⟨m + 1, q + 1, q, rfl, by go_num, by omega, Lib.hid (by rw [hle2.out]; omega), by omega, by omega, hb2, by omega⟩
          · have hle2 : Hid (Words.lenTo ys (m + 1) = Words.lenTo ys m) := Lib.hid (by rw [hst1.out, if_neg hly])
            have hly2 : Words.lynB (ys.take (m + 1)) = false := by simpa using hly
            rw [hly2]
            clear hly hly2
            go_wp2_with fail
            go_roundg (gk - 1)
            case measure => omega
            case rel => exact ⟨m + 1, q + 1, n, rfl, by go_num, by omega, Lib.hid (by rw [hle2.out]; exact hne.out), by omega, by omega, hb2, by omega⟩
        · obtain rfl : m = ys.length := by omega
          have hqi : ¬ (q : Int) ≤ xs.length := by omega
          obtain ⟨l, hl⟩ : ∃ l, l = Words.lenTo ys ys.length := ⟨_, rfl⟩
          have hlp2 := hlp.out
          have hll2 := hll.out
          rw [← hl] at hlp2 hll2 hst hne
          clear hl hlp hll hq
          obtain rfl : n = j + l := hne.out
          clear hne
          have hnc : j + l ≤ ca := by omega
          have hjn2 : j ≤ j + l := by omega
          have hsub2 : IntsAt wr (.slice (Option.map (fun x => x.add j) aa) (j + l - j) (ca - j)) (ys.take l) := by
            rw [show j + l - j = l from by omega]
            exact IntsAt.below (hatu l hll2) hbr
          have hml' : Hid ((ys.take l).length = l) := Lib.hid (by rw [List.length_take]; omega)
          have ho2 := ho.below hbo
          have hs0 := hbw.size
          have hs2 := hbo.size
          go_wp2_with (first
            | (at_builtin; refine app_ints rfl (.tmp 33) (.tmp 37) rfl rfl (own_empty wr) rfl (hsub2.below (below_alloc wr _)) (by rw [hml'.out]; simp; omega) (by simp) ?_; intro v4 w4 o4 g4; change World.grownBy _ w4 (some wr.heap.size) at g4; obtain ⟨ao4, ca4, rfl, la4, lc4, cc4⟩ := Own.form o4; have b4 : Below wr.heap.size wr w4 := (below_alloc wr _).grown g4 (by simp) (by intro k hk; cases hk; exact Nat.le_refl _); have hs4 := b4.size; have o4' : OwnInts w4 w.heap.size (.slice ao4 (ints ([] ++ ys.take l)).length ca4) ([] ++ ys.take l) := Own.mono o4 (Nat.le_trans hs0 hs2))
            | (at_builtin; refine app_rows rfl (.tmp 32) (.tmp 39) rfl rfl (OwnRows.below (ho2.below b4) (below_alloc w4 _)) rfl (cell_new _ _ _) (OwnInts.below o4' (below_alloc w4 _)) (fun b hb => Nat.le_trans hs2 (Own.lt o4 hb).1) (by omega) (by simp; omega) ?_; intro v5 w5 o5 t5))
          rw [List.nil_append] at o5
          have hb4 : Below wo.heap.size wo w4 := hbo.trans (b4.mono hbo.size)
          go_roundg (gi - 1)
          case measure => omega
          case rel =>
            exact ⟨j + l, acc ++ [ys.take l], by go_num, ((hbw.trans (hb4.mono hs0)).alloc (by omega) _).trans (t5.below (Nat.le_refl _) (by simp; omega)), o5, Lib.hid hst.out, by simp; omega, by omega, by omega⟩
    · go_wp2_with fail
      have h2 := H.out _ wr (by rw [hfw.out, hfa.out, show xs.drop j = [] from List.drop_eq_nil_of_le (by omega), Words.facs_nil, List.append_nil]; exact ho) hbw
      rw [hok'.out] at h2
      have h3 := Lib.hid h2
      clear h2
      first | exact h3.out | (go_wp2_with fail; exact h3.out)

theorem Words.facs_size : ∀ {f : Nat} {ys : List Int}, ys.length ≤ f → (Words.facs f ys).length + sumLen (Words.facs f ys) ≤ 2 * ys.length
  | 0, ys, h => by
    obtain rfl : ys = [] := List.length_eq_zero_iff.1 (by omega)
    simp [Words.facs, sumLen]
  | f + 1, ys, h => by
    by_cases hy : ys = []
    · subst hy; simp [Words.facs, sumLen]
    · have h0 : 0 < ys.length := List.length_pos_iff.2 hy
      have hp := Words.lenTo_pos ys ys.length
      have hl := Words.lenTo_le ys ys.length (by omega)
      have ih := Words.facs_size (f := f) (ys := ys.drop (Words.lenTo ys ys.length)) (by rw [List.length_drop]; omega)
      rw [Words.facs, if_neg hy]
      rw [List.length_drop] at ih
      simp only [List.length_cons, sumLen, List.length_take]
      omega
theorem Words.facW_size (xs : List Int) : (Words.facW xs).length + sumLen (Words.facW xs) ≤ 4611686018427 := by
  unfold Words.facW
  split
  · rename_i h
    have h1 := Words.okW_len h
    have h2 := Words.facs_size (Nat.le_refl xs.length)
    omega
  · simp [sumLen]
set_option maxHeartbeats 3200000 in
theorem FnExactLyndonFactors_l {xs : List Int} {v_xs : Value} {w : World} {Q : Ending → World → Prop} (h_xs : IntsAt w v_xs xs) (hQ : ∀ w', Below w.heap.size w w' → Q (.returned (.bool true)) w') :
    Calls Try.prog 14 #[v_xs] w Q := by
  have H := Lib.hid hQ; clear hQ
  have h0_xs := h_xs
  obtain ⟨ao_xs, ca_xs, rfl, la_xs, lc_xs, cc_xs⟩ := h0_xs.form
  clear h0_xs
  rcases Int.lt_or_le 1048576 (xs.length : Int) with b_xs | b_xs
  · go_enter Try.func14, Try.ntmps14
    go_wp2
    exact H.out _ (Below.refl _ _)
  go_enter Try.func14, Try.ntmps14
  have bel := Below.refl w.heap.size w
  go_wp2_with fail
  refine toIntS_c (h_xs.below bel) (by omega) ?_; intro vt_xs w1 ot_xs b1
  have sz_ot_xs := bel.size
  replace bel := bel.trans (b1.mono bel.size)
  have le_ot_xs := Nat.le_refl w1.heap.size
  have in_ot_xs := Own.inBlk ot_xs
  go_wp2_with fail
  refine LyndonFactors_s ot_xs.at (by omega) ?_; intro vs0 w2 os0 b2
  have sz_os0 := bel.size
  have or_ot_xs_os0 := le_ot_xs
  replace bel := bel.trans (b2.mono bel.size)
  replace le_ot_xs := Nat.le_trans le_ot_xs b2.size
  replace ot_xs := ot_xs.below b2
  have le_os0 := Nat.le_refl w2.heap.size
  clear le_ot_xs sz_ot_xs ot_xs in_ot_xs
  go_wp2_with fail
  refine toIntS_c (h_xs.below bel) (by omega) ?_; intro vx_xs w3 ox_xs b3
  have sz_ox_xs := bel.size
  have or_os0_ox_xs := le_os0
  replace bel := bel.trans (b3.mono bel.size)
  replace le_os0 := Nat.le_trans le_os0 b3.size
  replace os0 := os0.below b3
  have le_ox_xs := Nat.le_refl w3.heap.size
  have in_ox_xs := Own.inBlk ox_xs
  go_wp2_with fail
  refine LyndonFactors_i ox_xs.at (by omega) ?_; intro vg0 w4 og0 b4
  have sz_og0 := bel.size
  have or_os0_og0 := le_os0
  have or_ox_xs_og0 := le_ox_xs
  replace bel := bel.trans (b4.mono bel.size)
  replace le_os0 := Nat.le_trans le_os0 b4.size
  replace os0 := os0.below b4
  replace le_ox_xs := Nat.le_trans le_ox_xs b4.size
  replace ox_xs := ox_xs.below b4
  have le_og0 := Nat.le_refl w4.heap.size
  go_wp2_with fail
  refine eqIntSS_c og0.at os0.at ?_; intro w5 d5
  replace bel := bel.trans (d5.below _)
  replace le_os0 := Nat.le_trans le_os0 (d5.below 0).size
  replace os0 := os0.drawn d5
  replace le_ox_xs := Nat.le_trans le_ox_xs (d5.below 0).size
  replace ox_xs := ox_xs.drawn d5
  replace le_og0 := Nat.le_trans le_og0 (d5.below 0).size
  replace og0 := og0.drawn d5
  go_wp2_with fail
  refine toIntS_c (h_xs.below bel) (by omega) ?_; intro vu_xs w6 ou_xs b6
  have sz_ou_xs := bel.size
  have or_os0_ou_xs := le_os0
  have or_ox_xs_ou_xs := le_ox_xs
  have or_og0_ou_xs := le_og0
  replace bel := bel.trans (b6.mono bel.size)
  replace le_os0 := Nat.le_trans le_os0 b6.size
  replace os0 := os0.below b6
  replace le_ox_xs := Nat.le_trans le_ox_xs b6.size
  replace ox_xs := ox_xs.below b6
  replace le_og0 := Nat.le_trans le_og0 b6.size
  replace og0 := og0.below b6
  have le_ou_xs := Nat.le_refl w6.heap.size
  have in_ou_xs := Own.inBlk ou_xs
  go_wp2_with fail
  refine eqIntS_c ox_xs.at ou_xs.at ?_; intro w7 d7
  replace bel := bel.trans (d7.below _)
  replace le_os0 := Nat.le_trans le_os0 (d7.below 0).size
  replace os0 := os0.drawn d7
  replace le_ox_xs := Nat.le_trans le_ox_xs (d7.below 0).size
  replace ox_xs := ox_xs.drawn d7
  replace le_og0 := Nat.le_trans le_og0 (d7.below 0).size
  replace og0 := og0.drawn d7
  replace le_ou_xs := Nat.le_trans le_ou_xs (d7.below 0).size
  replace ou_xs := ou_xs.drawn d7
  clear le_ou_xs sz_ou_xs ou_xs in_ou_xs
  have rb := Words.facW_size xs
  go_wp2_with fail
  refine markIntS_c ox_xs (by omega) (by omega) (by omega) ?_; intro w8 m8 g8
  replace g8 := Touch.of_grown g8 fun k hk => ⟨(ox_xs.lt hk).1, in_ox_xs k hk⟩
  replace bel := bel.trans (g8.below sz_ox_xs bel.size)
  replace le_os0 := Nat.le_trans le_os0 g8.size
  replace os0 := os0.touch g8 (.inl or_os0_ox_xs)
  replace le_ox_xs := Nat.le_trans le_ox_xs g8.size
  replace ox_xs := m8
  replace le_og0 := Nat.le_trans le_og0 g8.size
  replace og0 := og0.touch g8 (.inr or_ox_xs_og0)
  go_wp2_with fail
  refine eqIntSS_c og0.at os0.at ?_; intro w9 d9
  replace bel := bel.trans (d9.below _)
  replace le_os0 := Nat.le_trans le_os0 (d9.below 0).size
  replace os0 := os0.drawn d9
  replace le_ox_xs := Nat.le_trans le_ox_xs (d9.below 0).size
  replace ox_xs := ox_xs.drawn d9
  replace le_og0 := Nat.le_trans le_og0 (d9.below 0).size
  replace og0 := og0.drawn d9
  go_wp2_with fail
  refine markIntSS_c og0 (by omega) (by omega) (by omega) ?_; intro w10 m10 g10
  replace bel := bel.trans (g10.below sz_og0 bel.size)
  replace le_os0 := Nat.le_trans le_os0 g10.size
  replace os0 := os0.touch g10 (.inl or_os0_og0)
  replace le_ox_xs := Nat.le_trans le_ox_xs g10.size
  replace ox_xs := ox_xs.touch in_ox_xs g10 (.inl or_ox_xs_og0)
  replace le_og0 := Nat.le_trans le_og0 g10.size
  replace og0 := m10
  go_wp2_with fail
  refine heldIntSS_c og0.at (by omega) (by omega) (by omega) ?_
  clear le_ox_xs sz_ox_xs ox_xs in_ox_xs
  go_wp2_with fail
  refine toIntS_c (h_xs.below bel) (by omega) ?_; intro vy_xs w11 oy_xs b11
  have sz_oy_xs := bel.size
  have or_os0_oy_xs := le_os0
  have or_og0_oy_xs := le_og0
  replace bel := bel.trans (b11.mono bel.size)
  replace le_os0 := Nat.le_trans le_os0 b11.size
  replace os0 := os0.below b11
  replace le_og0 := Nat.le_trans le_og0 b11.size
  replace og0 := og0.below b11
  have le_oy_xs := Nat.le_refl w11.heap.size
  have in_oy_xs := Own.inBlk oy_xs
  go_wp2_with fail
  refine LyndonFactors_i oy_xs.at (by omega) ?_; intro vh0 w12 oh0 b12
  have sz_oh0 := bel.size
  have or_os0_oh0 := le_os0
  have or_og0_oh0 := le_og0
  have or_oy_xs_oh0 := le_oy_xs
  replace bel := bel.trans (b12.mono bel.size)
  replace le_os0 := Nat.le_trans le_os0 b12.size
  replace os0 := os0.below b12
  replace le_og0 := Nat.le_trans le_og0 b12.size
  replace og0 := og0.below b12
  replace le_oy_xs := Nat.le_trans le_oy_xs b12.size
  replace oy_xs := oy_xs.below b12
  have le_oh0 := Nat.le_refl w12.heap.size
  clear le_oy_xs sz_oy_xs oy_xs in_oy_xs
  go_wp2_with fail
  refine eqIntSS_c oh0.at os0.at ?_; intro w13 d13
  replace bel := bel.trans (d13.below _)
  replace le_os0 := Nat.le_trans le_os0 (d13.below 0).size
  replace os0 := os0.drawn d13
  replace le_og0 := Nat.le_trans le_og0 (d13.below 0).size
  replace og0 := og0.drawn d13
  replace le_oh0 := Nat.le_trans le_oh0 (d13.below 0).size
  replace oh0 := oh0.drawn d13
  go_wp2_with fail
  refine heldIntSS_c og0.at (by omega) (by omega) (by omega) ?_
  go_wp2
  exact H.out _ bel
end Go.Proofs.Ytnghikcmdihagaa
