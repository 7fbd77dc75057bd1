/-
  The factors of Lyndon of a word.
-/
import Derived.Test.YtmlmpneikhdgcaaBrace
import Derived.Test.YtmlmpneikhdgcaaLynFs
import Derived.Test.YtmlmpneikhdgcaaMemT
import Derived.Test.YtmlmpneikhdgcaaLawS
set_option linter.unusedVariables false
namespace Go.Proofs.Ytmlmpneikhdgcaa
open Go.RowKit

set_option maxHeartbeats 1600000 in
theorem LyndonFactors_i {va : Value} {xs : List Int} {w : World} {Q : Ending → World → Prop} (ha : IntsAt w va xs) (hn : xs.length ≤ 1048576)
    (hQ : ∀ v w', OwnRows w' w.heap.size w'.heap.size v (Words.facW xs) → Below w.heap.size w w' → Q (.returned (.tuple #[v, .bool (Words.okW xs)])) w') :
    Calls Try.prog 42 #[va] w Q := by
  have H := Lib.hid hQ; clear hQ
  have ha0 := Lib.hid ha
  obtain ⟨aa, ca, rfl, la, lca, cca⟩ := ha.form
  go_enter Try.func42, Try.ntmps42
  go_wp2_with fail
  refine ColoringOk_i ha0.out ?_
  by_cases hok : Words.okW xs = true
  rotate_left
  · have hok2 : Words.okW xs = false := by simpa using hok
    have h2 := H.out (.slice none 0 0) w (by unfold Words.facW; rw [if_neg hok]; exact OwnRows.nil _ _ _) (Below.refl _ _)
    rw [hok2] at h2
    have h3 := Lib.hid h2
    rw [hok2]
    clear h2 hok hok2
    go_wp2_with fail
    exact h3.out
  have hok' := Lib.hid hok
  obtain ⟨hl1, hl2⟩ := Words.okW_len hok
  have hfw : Hid (Words.facW xs = Words.facs xs.length xs) := Lib.hid (by unfold Words.facW; rw [if_pos hok])
  rw [hok]
  clear hok
  go_wp2_with fail
  go_loopg [4, 5] xs.length (fun gg b i wr => ∃ (j : Nat) (acc : List (List Int)), i = .int .i64 j ∧ Below w.heap.size w wr ∧ OwnRows wr w.heap.size wr.heap.size b acc ∧ Hid (Words.facs xs.length xs = acc ++ Words.facs xs.length (xs.drop j)) ∧ acc.length ≤ j ∧ j ≤ xs.length ∧ xs.length ≤ j + gg)
  case atStart => exact ⟨0, [], rfl, below_alloc w _, (own_rows_empty w).tight, Lib.hid (by simp), by simp, by omega, by omega⟩
  case round =>
    obtain ⟨j, acc, rfl, hbw, ho, hfa, hal, hjn, hm2⟩ := hrel
    by_cases hj : j < xs.length
    · have i1 : (j : Int) < xs.length := by omega
      obtain ⟨ys, hys⟩ : ∃ ys, ys = xs.drop j := ⟨_, rfl⟩
      have hyl : ys.length = xs.length - j := by rw [hys, List.length_drop]
      have hy0 : ys ≠ [] := by intro e; rw [e] at hyl; simp at hyl; omega
      have hst : Hid (Words.facs xs.length xs = acc ++ [ys.take (Words.lenTo ys ys.length)] ++ Words.facs xs.length (xs.drop (j + Words.lenTo ys ys.length))) := Lib.hid (by
        rw [hfa.out, ← hys, Words.facs_step (by omega) hy0, hys, List.drop_drop]; simp)
      have hl1' : Hid (Words.lynB (ys.take 1) = true) := Lib.hid (by
        obtain ⟨x, h1, h2, h3⟩ := Words.okW_tail hok'.out hj
        rw [hys, h1]; exact Words.lyn_one h2 h3)
      have hlp := Lib.hid (Words.lenTo_pos ys ys.length)
      have hll := Lib.hid (Words.lenTo_le ys ys.length (by omega))
      obtain ⟨ao, co, rfl, lo, _, _⟩ := ho.form
      have hatu : ∀ m, m ≤ ys.length → IntsAt w (.slice (Option.map (fun x => x.add j) aa) m (ca - j)) (ys.take m) := fun m hm => by
        have h := (ha.tail hjn).upto (k := m) (by rw [List.length_drop]; omega)
        rwa [if_neg (by omega), ← hys] at h
      have hys' := Lib.hid hys
      clear hys hy0
      obtain ⟨wo, hwo⟩ : ∃ wo : World, wo = wr := ⟨_, rfl⟩
      subst hwo
      obtain ⟨gi, hgi⟩ : ∃ g' : Nat, g' = gk := ⟨_, rfl⟩
      subst hgi
      go_wp2_with fail
      go_loopg [6] ys.length (fun gg e wr => ∃ m q : Nat, e = .int .i64 q ∧ q = j + m ∧ 1 ≤ m ∧ m ≤ ys.length ∧ Below wo.heap.size wo wr ∧ Hid (Words.lenTo ys ys.length = Words.lenTo ys m) ∧ m ≤ gg)
      case atStart => exact ⟨ys.length, xs.length, rfl, by omega, by omega, Nat.le_refl _, Below.refl _ _, Lib.hid rfl, Nat.le_refl _⟩
      case round =>
        obtain ⟨m, q, rfl, hq, hm0, hm1, hbo, hle, hmg⟩ := hrel
        have hqc : q ≤ ca := by omega
        have hjq : j ≤ q := by omega
        have hbr : Below w.heap.size w wr := hbw.trans (hbo.mono hbw.size)
        have hsub : IntsAt wr (.slice (Option.map (fun x => x.add j) aa) m (ca - j)) (ys.take m) := IntsAt.below (hatu m hm1) hbr
        have hml : (ys.take m).length = m := by rw [List.length_take]; omega
        have hml' := Lib.hid hml
        clear hml
        go_wp2_with fail
        refine IsLyndon_i hsub (by rw [hml'.out]; omega) ?_
        intro w2 b2
        have hb2 : Below wo.heap.size wo w2 := hbo.trans (b2.mono hbo.size)
        have hbw2 : Below w.heap.size w w2 := hbw.trans (hb2.mono hbw.size)
        by_cases hly : Words.lynB (ys.take m) = true
        · have hle2 : Hid (Words.lenTo ys ys.length = m) := Lib.hid (by
            rw [hle.out]
            obtain ⟨m', rfl⟩ : ∃ m', m = m' + 1 := ⟨m - 1, by omega⟩
            simp only [Words.lenTo]
            rw [if_pos hly])
          rw [hly]
          clear hly
          have hst2 := hst.out
          rw [hle2.out] at hst2
          have hst3 := Lib.hid hst2
          clear hst2
          have hsub2 : IntsAt w2 (.slice (Option.map (fun x => x.add j) aa) m (ca - j)) (ys.take m) := IntsAt.below (hatu m hm1) hbw2
          go_wp2_with fail
          refine Clone_c hsub2 (by rw [hml'.out]; omega) ?_
          intro v4 w4 o4 b4
          obtain ⟨ao4, ca4, rfl, la4, lc4, cc4⟩ := Own.form o4
          have hs4 := b4.size
          have hb4 : Below wo.heap.size wo w4 := hb2.trans (b4.mono hb2.size)
          have ho4 := ho.below hb4
          have hs0 := hbw.size
          have hs2 := hb2.size
          have o4' : OwnInts w4 w.heap.size _ _ := Own.mono o4 (Nat.le_trans hs0 hs2)
          go_wp2_with (at_builtin; refine app_rows rfl (.tmp 25) (.tmp 31) rfl rfl (OwnRows.below ho4 (below_alloc w4 _)) rfl (cell_new _ _ _) (OwnInts.below o4' (below_alloc w4 _)) (fun b hb => Nat.le_trans hs2 (Own.lt o4 hb).1) (by omega) (by simp; omega) ?_; intro v5 w5 o5 t5)
          go_roundg (gi - 1)
          case measure => omega
          case rel =>
            exact ⟨j + m, acc ++ [ys.take m], by go_num, ((hbw.trans (hb4.mono hs0)).alloc (by omega) _).trans (t5.below (Nat.le_refl _) (by simp; omega)), o5, Lib.hid hst3.out, by simp; omega, by omega, by omega⟩
        · have hm2 : 2 ≤ m := by
            by_cases h1 : m = 1
            · subst h1; exact absurd hl1'.out hly
            · omega
          have hle2 : Hid (Words.lenTo ys ys.length = Words.lenTo ys (m - 1)) := Lib.hid (by
            rw [hle.out]
            obtain ⟨m', rfl⟩ : ∃ m', m = m' + 1 := ⟨m - 1, by omega⟩
            simp only [Words.lenTo]
            rw [if_neg hly]
            rfl)
          have hly2 : Words.lynB (ys.take m) = false := by simpa using hly
          rw [hly2]
          clear hly hly2
          go_wp2_with fail
          go_roundg (gk - 1)
          case measure => omega
          case rel => exact ⟨m - 1, q - 1, by go_num, by omega, by omega, by omega, hb2, hle2, by omega⟩
    · go_wp2_with fail
      have h2 := H.out _ wr (by rw [hfw.out, hfa.out, show xs.drop j = [] from List.drop_eq_nil_of_le (by omega), Words.facs_nil, List.append_nil]; exact ho) hbw
      rw [hok'.out] at h2
      have h3 := Lib.hid h2
      clear h2
      first | exact h3.out | (go_wp2_with fail; exact h3.out)

theorem Words.facs_size : ∀ {f : Nat} {ys : List Int}, ys.length ≤ f → (Words.facs f ys).length + sumLen (Words.facs f ys) ≤ 2 * ys.length
  | 0, ys, h => by
    obtain rfl : ys = [] := List.length_eq_zero_iff.1 (by omega)
    simp [Words.facs, sumLen]
  | f + 1, ys, h => by
    by_cases hy : ys = []
    · subst hy; simp [Words.facs, sumLen]
    · have h0 : 0 < ys.length := List.length_pos_iff.2 hy
      have hp := Words.lenTo_pos ys ys.length
      have hl := Words.lenTo_le ys ys.length (by omega)
      have ih := Words.facs_size (f := f) (ys := ys.drop (Words.lenTo ys ys.length)) (by rw [List.length_drop]; omega)
      rw [Words.facs, if_neg hy]
      rw [List.length_drop] at ih
      simp only [List.length_cons, sumLen, List.length_take]
      omega
theorem Words.facW_size (xs : List Int) : (Words.facW xs).length + sumLen (Words.facW xs) ≤ 4611686018427 := by
  unfold Words.facW
  split
  · rename_i h
    have h1 := Words.okW_len h
    have h2 := Words.facs_size (Nat.le_refl xs.length)
    omega
  · simp [sumLen]
end Go.Proofs.Ytmlmpneikhdgcaa
