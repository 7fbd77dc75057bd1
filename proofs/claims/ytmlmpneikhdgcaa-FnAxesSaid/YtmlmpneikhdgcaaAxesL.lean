/-
  The law FnAxes: what it computes.
-/
import Derived.Test.YtmlmpneikhdgcaaWchk
import Derived.Test.YtmlmpneikhdgcaaMake
import Derived.Test.YtmlmpneikhdgcaaBrace
set_option linter.unusedVariables false
namespace Go.Proofs.Ytmlmpneikhdgcaa
open Go.RowKit

theorem Words.bin_mem {n : Nat} {xs : List Int} (hl : xs.length = n) (hr : ∀ x ∈ xs, 0 ≤ x ∧ x < 2) : xs ∈ Perms.wordsN 2 n := Perms.wordsN_mem.2 ⟨hl, fun x hx => by have := hr x hx; omega⟩
set_option maxHeartbeats 1600000 in
theorem FnAxes_l {v : Value} {bs : List Int} {w : World} {Q : Ending → World → Prop} (hb : BytesAt w v bs) (hQ : ∀ w', Below w.heap.size w w' → Q (.returned (.bool true)) w') :
    Calls Try.prog 9 #[v] w Q := by
  have H := Lib.hid hQ; clear hQ
  have hb' := hb
  obtain ⟨ao, ca, rfl, la, lca, cca⟩ := hb'.form
  rw [show (bytes bs).length = bs.length from by simp [bytes]] at *
  by_cases hlen : (bs.length : Int) ≤ 1048576
  rotate_left
  · have hl2 : (1048576 : Int) < bs.length := by omega
    go_enter Try.func9, Try.ntmps9
    go_wp2_with fail
    exact H.out _ (Below.refl _ _)
  have hb0 := Lib.hid hb
  clear hb hb'
  go_enter Try.func9, Try.ntmps9
  go_wp2_with fail
  refine MakeNum_c hb0.out (by omega) (by omega) ?_
  intro x1 w1 hx0 hx1 b1
  obtain ⟨n, hn⟩ : ∃ n : Nat, 1 + x1 % 10 = (n : Int) := ⟨(1 + x1 % 10).toNat, by omega⟩
  have hn1 : 1 ≤ n := by omega
  have hn2 : n ≤ 10 := by omega
  have hb1 := Lib.hid (hb0.out.below b1)
  go_wp2_with fail
  clear hn hx0 hx1
  refine MakeColors_c hb1.out (by omega) (by omega) hn1 hn2 (by omega) (by omega) ?_
  intro v2 xs w2 hl2 hr2 o2 b2
  obtain ⟨a2, c2, rfl, _, _, _⟩ := Own.form o2
  have e2 : (ints xs).length = n := by rw [ints_len]; exact hl2
  rw [e2] at o2 ⊢
  have hb2 := Lib.hid (hb1.out.below b2)
  have bw2 : Below w.heap.size w w2 := b1.trans (b2.mono b1.size)
  have hr2' := Lib.hid hr2
  clear hr2
  go_wp2_with fail
  refine MakeNum_c hb2.out (by omega) (by omega) ?_
  intro x3 w3 hx30 hx31 b3
  have bw3 : Below w.heap.size w w3 := bw2.trans (b3.mono bw2.size)
  have o3 : OwnInts w3 w.heap.size (.slice a2 n c2) xs := OwnInts.mono (OwnInts.below o2 b3) b1.size
  obtain ⟨g, rfl, hgB, _⟩ := Own.head o3 (by omega)
  clear o2 b2 b3
  by_cases hx3 : x3 % 2 = 0
  rotate_left
  · have hx3' : (x3 % 2 == 0) = false := beq_eq_false_iff_ne.2 hx3
    clear hx3
    go_wp2_with fail
    have hchk := Lib.hid (List.all_eq_true.1 (Words.axes_all hn1 hn2) xs (Words.bin_mem hl2 hr2'.out))
    have hch2 := hchk.out
    unfold Words.axesChk at hch2
    simp only [Bool.and_eq_true, decide_eq_true_eq] at hch2
    obtain ⟨hp1, hax⟩ := hch2
    have hax' := Lib.hid hax
    clear hax
    have hpn : ¬ (Words.perI xs = 0) := by omega
    have ha9 := Lib.hid (OwnInts.at o3)
    go_wp2_with fail
    refine AxesOf_i ha9.out (by omega) ?_
    intro va wa oa ba
    obtain ⟨aa9, ca9, rfl, _, _, _⟩ := Own.form oa
    have hba := bw3.trans (ba.mono bw3.size)
    go_wp2_with fail
    refine PeriodOf_i (ha9.out.below ba) (by omega) ?_
    intro wb bb
    have hbb := hba.trans (bb.mono hba.size)
    go_wp2_with fail
    refine IsMirrored_i ((ha9.out.below ba).below bb) (by omega) ?_
    intro wc bc
    have hbc := hbb.trans (bc.mono hbb.size)
    have h3 := Lib.hid (H.out wc hbc)
    have hax2 := hax'.out
    cases hm : Words.mirB xs with
    | true =>
      rw [hm, if_pos rfl] at hax2
      rw [decide_eq_true_eq] at hax2
      have hd1 : 0 ≤ (n : Int) / Words.perI xs := Int.ediv_nonneg (by omega) (by omega)
      have hd2 : (n : Int) / Words.perI xs ≤ n := Int.ediv_le_self _ (by omega)
      have hwr : Hid (IntKind.i64.wrap ((n : Int) / Words.perI xs) = (n : Int) / Words.perI xs) := Lib.hid (IntWalk.i64_in _ (by omega))
      have hax3 : Hid (((Words.axW xs).length : Int) = (n : Int) / Words.perI xs) := Lib.hid (by rw [hax2, hl2])
      clear hm hax2
      go_wp2_with fail
      refine boolq' h3.out ?_
      simp [ints_len, hax3.out]
    | false =>
      rw [hm] at hax2
      simp only [Bool.false_eq_true, if_false, decide_eq_true_eq] at hax2
      have hax3 := Lib.hid hax2
      clear hm hax2
      go_wp2_with fail
      refine boolq' h3.out ?_
      simp [ints_len, hax3.out]
  have hx3' : (x3 % 2 == 0) = true := by rw [hx3]; rfl
  clear hx3
  go_wp2_with fail
  go_loopg [24] n (fun gg u24 wr => ∃ (j : Nat) (ys : List Int), u24 = .int .i64 j ∧ ys.length = n ∧ Hid (∀ x ∈ ys, 0 ≤ x ∧ x < 2) ∧ OwnInts wr w.heap.size (.slice (some ⟨g, 0, none⟩) n c2) ys ∧ Below w.heap.size w wr ∧ j + gg ≤ n ∧ n ≤ j + gg)
  case atStart => exact ⟨0, xs, rfl, hl2, hr2', o3, bw3, by omega, by omega⟩
  case round =>
    obtain ⟨j, ys, rfl, hly, hry, oy, by0, hm1, hm2⟩ := hrel
    by_cases hj : j < n
    · have hjI : (j : Int) < n := by omega
      obtain ⟨m, hm⟩ : ∃ m : Nat, (n : Int) - 1 - j = (m : Int) := ⟨n - 1 - j, by omega⟩
      have hmn : m < n := by omega
      have hmI : (m : Int) < n := by omega
      obtain ⟨x, hx, hcx⟩ := OwnInts.cell oy (k := m) (by omega)
      obtain ⟨y, hy, hcy⟩ := OwnInts.cell oy (k := j) (by omega)
      have hfr := Own.frozen oy j
      have oy2 := OwnInts.set oy j x
      have hg2 := grown_set wr g j (.int .i64 x)
      have by2 := by0.grown hg2 by0.size (fun b hb => by cases hb; exact hgB)
      have hry2 : Hid (∀ z ∈ ys.set j x, 0 ≤ z ∧ z < 2) := Lib.hid (fun z hz => by
        rcases List.mem_or_eq_of_mem_set hz with h | h
        · exact hry.out z h
        · subst h; exact hry.out z (List.mem_of_getElem? hx.out))
      go_wp2_with fail
      go_roundg (gk - 1)
      case measure => omega
      case rel => exact ⟨j + 1, ys.set j x, by go_num, by rw [List.length_set]; exact hly, hry2, oy2, by2, by omega, by omega⟩
    · go_wp2_with fail
      have hchk := Lib.hid (List.all_eq_true.1 (Words.axes_all hn1 hn2) ys (Words.bin_mem hly hry.out))
      have hch2 := hchk.out
      unfold Words.axesChk at hch2
      simp only [Bool.and_eq_true, decide_eq_true_eq] at hch2
      obtain ⟨hp1, hax⟩ := hch2
      have hax' := Lib.hid hax
      clear hax
      have hpn : ¬ (Words.perI ys = 0) := by omega
      have ha9 := Lib.hid (OwnInts.at oy)
      go_wp2_with fail
      refine AxesOf_i ha9.out (by omega) ?_
      intro va wa oa ba
      obtain ⟨aa9, ca9, rfl, _, _, _⟩ := Own.form oa
      have hba := by0.trans (ba.mono by0.size)
      go_wp2_with fail
      refine PeriodOf_i (ha9.out.below ba) (by omega) ?_
      intro wb bb
      have hbb := hba.trans (bb.mono hba.size)
      go_wp2_with fail
      refine IsMirrored_i ((ha9.out.below ba).below bb) (by omega) ?_
      intro wc bc
      have hbc := hbb.trans (bc.mono hbb.size)
      have h3 := Lib.hid (H.out wc hbc)
      have hax2 := hax'.out
      cases hm : Words.mirB ys with
      | true =>
        rw [hm, if_pos rfl] at hax2
        rw [decide_eq_true_eq] at hax2
        have hd1 : 0 ≤ (n : Int) / Words.perI ys := Int.ediv_nonneg (by omega) (by omega)
        have hd2 : (n : Int) / Words.perI ys ≤ n := Int.ediv_le_self _ (by omega)
        have hwr : Hid (IntKind.i64.wrap ((n : Int) / Words.perI ys) = (n : Int) / Words.perI ys) := Lib.hid (IntWalk.i64_in _ (by omega))
        have hax3 : Hid (((Words.axW ys).length : Int) = (n : Int) / Words.perI ys) := Lib.hid (by rw [hax2, hly])
        clear hm hax2
        go_wp2_with fail
        refine boolq' h3.out ?_
        simp [ints_len, hax3.out]
      | false =>
        rw [hm] at hax2
        simp only [Bool.false_eq_true, if_false, decide_eq_true_eq] at hax2
        have hax3 := Lib.hid hax2
        clear hm hax2
        go_wp2_with fail
        refine boolq' h3.out ?_
        simp [ints_len, hax3.out]
end Go.Proofs.Ytmlmpneikhdgcaa
