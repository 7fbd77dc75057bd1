/-
  The words of Lyndon and the bracelets, listed on both sides.
-/
import Derived.Test.YtmlmpneikhdgcaaEnum0
import Derived.Test.YtmlmpneikhdgcaaDel
import Derived.Test.YtmlmpneikhdgcaaNxt
import Derived.Test.YtmlmpneikhdgcaaIsm
set_option linter.unusedVariables false
namespace Go.Proofs.Ytmlmpneikhdgcaa
open Go.RowKit

set_option maxHeartbeats 800000 in
theorem l08Ok_c {n k : Int} {w : World} {Q : Ending → World → Prop} (hQ : Q (.returned (.bool (Words.smallN n k))) w) :
    Calls Try.prog 66 #[.int .i64 n, .int .i64 k] w Q := by
  have H := Lib.hid hQ; clear hQ
  go_enter Try.func66, Try.ntmps66
  by_cases hn : 1 ≤ n ∧ n ≤ 10
  · have hd : Hid (decide (1 ≤ n ∧ n ≤ 10) = true) := Lib.hid (decide_eq_true hn)
    obtain ⟨hn1, hn2⟩ := hn
    by_cases hk : 1 ≤ k ∧ k ≤ 4
    · have hdk : Hid (decide (1 ≤ k ∧ k ≤ 4) = true) := Lib.hid (decide_eq_true hk)
      obtain ⟨hk1, hk4⟩ := hk
      have e : Hid (Words.smallN n k = decide (Nums.pw k n ≤ 1024)) := Lib.hid (by unfold Words.smallN; rw [hd.out, hdk.out]; rfl)
      go_wp2_with (go_at_call 57; refine l01In_c ?_; first | rw [hd.out] | rw [hdk.out])
      refine power_s (by omega) hk4 (by omega) (by omega) ?_
      go_wp2_with fail
      refine boolq' H.out ?_
      rw [e.out]
    · have hdk : Hid (decide (1 ≤ k ∧ k ≤ 4) = false) := Lib.hid (decide_eq_false hk)
      have e : Hid (Words.smallN n k = false) := Lib.hid (by unfold Words.smallN; rw [hd.out, hdk.out]; rfl)
      clear hk
      go_wp2_with (go_at_call 57; refine l01In_c ?_; first | rw [hd.out] | rw [hdk.out])
      exact boolq' H.out e.out
  · have hd : Hid (decide (1 ≤ n ∧ n ≤ 10) = false) := Lib.hid (decide_eq_false hn)
    have e : Hid (Words.smallN n k = false) := Lib.hid (by unfold Words.smallN; rw [hd.out]; rfl)
    clear hn
    go_wp2_with (go_at_call 57; refine l01In_c ?_; rw [hd.out])
    exact boolq' H.out e.out
set_option maxHeartbeats 2000000 in
theorem LyndonWords_s {n k : Int} {w : World} {Q : Ending → World → Prop}
    (hQ : ∀ v w', OwnRows w' w.heap.size w'.heap.size v (Words.enumO Words.lynB n k) → Below w.heap.size w w' → Q (.returned (.tuple #[v, .bool (Words.smallN n k)])) w') :
    Calls Try.prog 23 #[.int .i64 n, .int .i64 k] w Q := by
  have H := Lib.hid hQ; clear hQ
  by_cases hs0 : Words.smallN n k = true
  rotate_left
  · have hf : Hid (Words.smallN n k = false) := Lib.hid (by simpa using hs0)
    have h2 := H.out (.slice none 0 0) w (by unfold Words.enumO; rw [if_neg hs0]; exact OwnRows.nil _ _ _) (Below.refl _ _)
    rw [hf.out] at h2
    have h3 := Lib.hid h2
    clear hs0 h2
    go_enter Try.func23, Try.ntmps23
    go_wp2_with fail
    refine l08Ok_c ?_
    rw [hf.out]
    go_wp2_with fail
    exact h3.out
  have hs := Lib.hid hs0
  have hs2 := hs0
  unfold Words.smallN at hs2
  simp only [Bool.and_eq_true, decide_eq_true_eq] at hs2
  obtain ⟨⟨hn1, hn2⟩, ⟨hk1, hk4⟩, hpw⟩ := hs2
  obtain ⟨n0, rfl⟩ : ∃ n0 : Nat, n = n0 := ⟨n.toNat, by omega⟩
  have Hok : Hid (∀ v w', OwnRows w' w.heap.size w'.heap.size v (Words.enumW Words.lynB n0 k) → Below w.heap.size w w' → Q (.returned (.tuple #[v, .bool true])) w') := Lib.hid fun v w' ho hb => by
    have h2 := H.out v w' (by unfold Words.enumO; rw [if_pos hs.out, Int.toNat_natCast]; exact ho) hb
    rwa [hs.out] at h2
  have hwl : Hid ((Perms.wordsN k.toNat n0).length ≤ 1024) := Lib.hid (by
    rw [Perms.wordsN_len]
    rw [Words.pw_pow (by omega)] at hpw
    omega)
  have hwm : Hid (∀ w ∈ Perms.wordsN k.toNat n0, w.length = n0 ∧ ∀ x ∈ w, 0 ≤ x ∧ x < k) := Lib.hid fun w hw => by
    obtain ⟨h1, h2⟩ := Perms.wordsN_mem.1 hw
    exact ⟨h1, fun x hx => by have := h2 x hx; omega⟩
  have hwf := Lib.hid (Perms.wordsN_first k.toNat (by omega) n0)
  have hwn : Hid (∀ (j : Nat) (w : List Int), (Perms.wordsN k.toNat n0)[j]? = some w → Perms.nextL k w = (Perms.wordsN k.toNat n0)[j + 1]?) := Lib.hid fun j w hw => by
    have := Perms.wordsN_next (by omega) hw
    rwa [show ((k.toNat : Nat) : Int) = k from by omega] at this
  have hpt : Hid (Words.enumW Words.lynB n0 k = (Perms.wordsN k.toNat n0).filter Words.lynB) := Lib.hid rfl
  obtain ⟨ws, hws⟩ : ∃ ws, ws = Perms.wordsN k.toNat n0 := ⟨_, rfl⟩
  rw [← hws] at hwl hwm hwf hwn hpt
  clear hws hs0 hpw
  go_enter Try.func23, Try.ntmps23
  go_wp2_with fail
  refine l08Ok_c ?_
  rw [hs.out]
  go_wp2_with (at_make; refine mk_ints rfl (.tmp 13) (.tmp 13) rfl rfl rfl n0 rfl (by omega) ?_; intro w1 ho1 hb1 hs1)
  have hw1 : w.heap.size ≤ w1.heap.size := by have := hb1.size; simp at this; omega
  have hbw1 : Below w.heap.size w w1 := (below_alloc w _).trans (hb1.mono (by simp))
  have hq : (w.alloc (.cells #[] 22)).heap.size = w.heap.size + 1 := by simp
  rw [hq] at ho1 hs1
  obtain ⟨q, hqq⟩ : ∃ q, q = w.heap.size + 1 := ⟨_, rfl⟩
  have hout1 := Own.below (own_outer_empty w) hb1
  clear hqq q hq
  go_loopg [6] ws.length (fun gg b wr => ∃ (j : Nat) (xs : List Int) (go nn cap : Nat) (us : List Value), b = .slice (some ⟨go, 0, none⟩) nn cap ∧ Below w.heap.size w wr ∧ Hid (ws[j]? = some xs) ∧ xs.length = n0 ∧ w1.heap.size ≤ wr.heap.size ∧
    OwnInts wr w.heap.size (.slice (some ⟨w.heap.size + 1, 0, none⟩) n0 n0) xs ∧ Own wr w.heap.size 22 (.slice (some ⟨go, 0, none⟩) nn cap) us ∧ Rows wr w1.heap.size wr.heap.size us ((ws.take j).filter Words.lynB) ∧
    j + gg ≤ ws.length ∧ ws.length ≤ j + gg)
  case atStart =>
    exact ⟨0, _, w.heap.size, 0, 0, [], rfl, hbw1, hwf, by simp, Nat.le_refl _, OwnInts.mono ho1 (by omega), hout1, Rows.nil _ _ _, by omega, by omega⟩
  case round =>
    obtain ⟨j, xs, go, nn, cap, us, rfl, hbw, hxj, hxn, hs0, hli, hou, hrw, hm1, hm2⟩ := hrel
    have hxr : Hid (∀ x ∈ xs, 0 ≤ x ∧ x < k) := Lib.hid (hwm.out xs (List.mem_of_getElem? hxj.out)).2
    have hrl : Hid (us.length ≤ 1024) := Lib.hid (by
      rw [hrw.1]
      have h1 := List.length_filter_le Words.lynB (ws.take j)
      have h2 := hwl.out
      rw [List.length_take] at h1
      omega)
    have hjw : j < ws.length := (List.getElem?_eq_some_iff.1 hxj.out).1
    have htk : Hid ((ws.take (j + 1)).filter Words.lynB = (ws.take j).filter Words.lynB ++ (if Words.lynB xs = true then [xs] else [])) := Lib.hid (by
      rw [List.take_add_one, hxj.out, List.filter_append]
      by_cases hp : Words.lynB xs = true <;> simp [hp])
    go_wp2_with fail
    refine IsLyndon_s (OwnInts.at hli) (by omega) ?_
    intro w3 b23
    have hbw3 : Below w.heap.size w w3 := hbw.trans (b23.mono hbw.size)
    have hli3 := OwnInts.below hli b23
    have hou3 := Own.below hou b23
    have hrw3 := (hrw.below b23).mono (Nat.le_refl _) b23.size
    have hs3 : w1.heap.size ≤ w3.heap.size := Nat.le_trans hs0 b23.size
    by_cases hp : Words.lynB xs = true
    · have hd : Hid (Words.lynB xs = true) := Lib.hid hp
      have ht : Hid ((ws.take (j + 1)).filter Words.lynB = (ws.take j).filter Words.lynB ++ [xs]) := Lib.hid (by rw [htk.out, if_pos hp])
      clear hp
      rw [hd.out]
      have hx3 : IntsAt w3 (.slice (some ⟨w.heap.size + 1, 0, none⟩) n0 n0) xs := OwnInts.at hli3
      go_wp2_with (first
        | (at_builtin; refine app_ints rfl (.tmp 18) (.tmp 19) rfl rfl (own_empty w3) rfl (hx3.below (below_alloc w3 _)) (by rw [hxn]; simp; omega) (by simp) ?_; intro v4 w4 o4 g4; change World.grownBy _ w4 (some w3.heap.size) at g4; obtain ⟨ao4, ca4, rfl, la4, lc4, cc4⟩ := Own.form o4; have b4 : Below w3.heap.size w3 w4 := (below_alloc w3 _).grown g4 (by simp) (by intro k hk; cases hk; exact Nat.le_refl _); have hou4 := Own.below (Own.below hou3 b4) (below_alloc w4 (.cells #[.slice ao4 (ints ([] ++ xs)).length ca4] 22)); have bw4 : w.heap.size ≤ w4.heap.size := Nat.le_trans hbw3.size b4.size)
        | (at_builtin; refine app_val rfl (.tmp 17) (.tmp 21) rfl rfl hou4 rfl (cell_new _ _ _) rfl (by have := hrl.out; omega) (by simp; omega) ?_; intro go5 cap5 w5 o5 g5 n5))
      have hsz4 := b4.size
      have hsz5 := g5.size
      simp at hsz5
      have hli5 := Own.grown (Own.below (OwnInts.below hli3 b4) (below_alloc w4 (.cells #[.slice ao4 (ints ([] ++ xs)).length ca4] 22))) g5 (own_types hou4 (Own.below (OwnInts.below hli3 b4) (below_alloc w4 _)) (by decide))
      have hbw5 : Below w.heap.size w w5 := (((hbw3.trans (b4.mono hbw3.size)).alloc bw4 _).grown g5 (by simp; omega) (fun b hb => by cases hb; exact (Own.lt hou4 rfl).1))
      have hrw5 : Rows w5 w1.heap.size w5.heap.size (us ++ [.slice ao4 (ints ([] ++ xs)).length ca4]) ((ws.take (j + 1)).filter Words.lynB) := by
        have h1 := ((hrw3.below b4).below (below_alloc w4 (.cells #[.slice ao4 (ints ([] ++ xs)).length ca4] 22))).outer hou4 g5
        have h2 := Own.grown (Own.below o4 (below_alloc w4 (.cells #[.slice ao4 (ints ([] ++ xs)).length ca4] 22))) g5 (own_types hou4 (Own.below o4 (below_alloc w4 _)) (by decide))
        rw [ht.out]
        exact h1.push (xs := xs) (Own.mono h2 hs3) (fun b hb => (Own.lt o4 hb).1)
      have hs5 : w1.heap.size ≤ w5.heap.size := by omega
      go_wp2_with fail
      refine next_n hxn hli5 hk1 hk4 hxr.out (by omega) ?_ ?_
      · intro ys w6 hy hoy g6
        have hj1 : ws[j + 1]? = some ys := by rw [← hwn.out j xs hxj.out]; exact hy
        have hj1' := Lib.hid hj1
        have hjl := (List.getElem?_eq_some_iff.1 hj1).1
        have hy' := Lib.hid hy
        have hyn : ys.length = n0 := by rw [Perms.nextL_len hy]; exact hxn
        have hsz6 := g6.size
        clear hy hj1
        go_wp2_with fail
        go_roundg (gk - 1)
        case measure => omega
        case rel => exact ⟨j + 1, ys, go5, _, cap5, _, rfl, hbw5.grown g6 hbw5.size (fun b hb => by cases hb; omega), hj1', hyn, Nat.le_trans hs5 hsz6, hoy, Own.grown o5 g6 (own_types hli5 o5 (by decide)), (hrw5.grown g6 (fun b hb => by cases hb; omega)).mono (Nat.le_refl _) hsz6, by omega, by omega⟩
      · intro w6 hy g6
        have hjl : ws.length ≤ j + 1 := by
          rw [hwn.out j xs hxj.out] at hy
          exact List.getElem?_eq_none_iff.1 hy
        have hy' := Lib.hid hy
        have hsz6 := g6.size
        clear hy
        go_wp2_with fail
        refine Hok.out _ _ ?_ (hbw5.grown g6 hbw5.size (fun b hb => by cases hb; omega))
        have hr6 := (hrw5.grown g6 (fun b hb => by cases hb; omega)).mono hw1 hsz6
        have ho6 := Own.grown o5 g6 (own_types hli5 o5 (by decide))
        rw [List.take_of_length_le hjl, ← (show Words.enumW Words.lynB n0 k = ws.filter Words.lynB from hpt.out)] at hr6
        exact hr6.whole ho6 ho6.inBlk
    · have hd : Hid (Words.lynB xs = false) := Lib.hid (by simpa using hp)
      have ht : Hid ((ws.take (j + 1)).filter Words.lynB = (ws.take j).filter Words.lynB) := Lib.hid (by rw [htk.out, if_neg hp, List.append_nil])
      clear hp
      rw [hd.out]
      rw [← ht.out] at hrw3
      go_wp2_with fail
      refine next_n hxn hli3 hk1 hk4 hxr.out (by omega) ?_ ?_
      · intro ys w6 hy hoy g6
        have hj1 : ws[j + 1]? = some ys := by rw [← hwn.out j xs hxj.out]; exact hy
        have hj1' := Lib.hid hj1
        have hjl := (List.getElem?_eq_some_iff.1 hj1).1
        have hy' := Lib.hid hy
        have hyn : ys.length = n0 := by rw [Perms.nextL_len hy]; exact hxn
        have hsz6 := g6.size
        clear hy hj1
        go_wp2_with fail
        go_roundg (gk - 1)
        case measure => omega
        case rel => exact ⟨j + 1, ys, go, nn, cap, us, rfl, hbw3.grown g6 hbw3.size (fun b hb => by cases hb; omega), hj1', hyn, Nat.le_trans hs3 hsz6, hoy, Own.grown hou3 g6 (own_types hli3 hou3 (by decide)), (hrw3.grown g6 (fun b hb => by cases hb; omega)).mono (Nat.le_refl _) hsz6, by omega, by omega⟩
      · intro w6 hy g6
        have hjl : ws.length ≤ j + 1 := by
          rw [hwn.out j xs hxj.out] at hy
          exact List.getElem?_eq_none_iff.1 hy
        have hy' := Lib.hid hy
        have hsz6 := g6.size
        clear hy
        go_wp2_with fail
        refine Hok.out _ _ ?_ (hbw3.grown g6 hbw3.size (fun b hb => by cases hb; omega))
        have hr6 := (hrw3.grown g6 (fun b hb => by cases hb; omega)).mono hw1 hsz6
        have ho6 := Own.grown hou3 g6 (own_types hli3 hou3 (by decide))
        rw [List.take_of_length_le hjl, ← (show Words.enumW Words.lynB n0 k = ws.filter Words.lynB from hpt.out)] at hr6
        exact hr6.whole ho6 ho6.inBlk
set_option maxHeartbeats 2000000 in
theorem BraceletsOf_s {n k : Int} {w : World} {Q : Ending → World → Prop}
    (hQ : ∀ v w', OwnRows w' w.heap.size w'.heap.size v (Words.enumO Words.brB n k) → Below w.heap.size w w' → Q (.returned (.tuple #[v, .bool (Words.smallN n k)])) w') :
    Calls Try.prog 28 #[.int .i64 n, .int .i64 k] w Q := by
  have H := Lib.hid hQ; clear hQ
  by_cases hs0 : Words.smallN n k = true
  rotate_left
  · have hf : Hid (Words.smallN n k = false) := Lib.hid (by simpa using hs0)
    have h2 := H.out (.slice none 0 0) w (by unfold Words.enumO; rw [if_neg hs0]; exact OwnRows.nil _ _ _) (Below.refl _ _)
    rw [hf.out] at h2
    have h3 := Lib.hid h2
    clear hs0 h2
    go_enter Try.func28, Try.ntmps28
    go_wp2_with fail
    refine l08Ok_c ?_
    rw [hf.out]
    go_wp2_with fail
    exact h3.out
  have hs := Lib.hid hs0
  have hs2 := hs0
  unfold Words.smallN at hs2
  simp only [Bool.and_eq_true, decide_eq_true_eq] at hs2
  obtain ⟨⟨hn1, hn2⟩, ⟨hk1, hk4⟩, hpw⟩ := hs2
  obtain ⟨n0, rfl⟩ : ∃ n0 : Nat, n = n0 := ⟨n.toNat, by omega⟩
  have Hok : Hid (∀ v w', OwnRows w' w.heap.size w'.heap.size v (Words.enumW Words.brB n0 k) → Below w.heap.size w w' → Q (.returned (.tuple #[v, .bool true])) w') := Lib.hid fun v w' ho hb => by
    have h2 := H.out v w' (by unfold Words.enumO; rw [if_pos hs.out, Int.toNat_natCast]; exact ho) hb
    rwa [hs.out] at h2
  have hwl : Hid ((Perms.wordsN k.toNat n0).length ≤ 1024) := Lib.hid (by
    rw [Perms.wordsN_len]
    rw [Words.pw_pow (by omega)] at hpw
    omega)
  have hwm : Hid (∀ w ∈ Perms.wordsN k.toNat n0, w.length = n0 ∧ ∀ x ∈ w, 0 ≤ x ∧ x < k) := Lib.hid fun w hw => by
    obtain ⟨h1, h2⟩ := Perms.wordsN_mem.1 hw
    exact ⟨h1, fun x hx => by have := h2 x hx; omega⟩
  have hwf := Lib.hid (Perms.wordsN_first k.toNat (by omega) n0)
  have hwn : Hid (∀ (j : Nat) (w : List Int), (Perms.wordsN k.toNat n0)[j]? = some w → Perms.nextL k w = (Perms.wordsN k.toNat n0)[j + 1]?) := Lib.hid fun j w hw => by
    have := Perms.wordsN_next (by omega) hw
    rwa [show ((k.toNat : Nat) : Int) = k from by omega] at this
  have hpt : Hid (Words.enumW Words.brB n0 k = (Perms.wordsN k.toNat n0).filter Words.brB) := Lib.hid rfl
  obtain ⟨ws, hws⟩ : ∃ ws, ws = Perms.wordsN k.toNat n0 := ⟨_, rfl⟩
  rw [← hws] at hwl hwm hwf hwn hpt
  clear hws hs0 hpw
  go_enter Try.func28, Try.ntmps28
  go_wp2_with fail
  refine l08Ok_c ?_
  rw [hs.out]
  go_wp2_with (at_make; refine mk_ints rfl (.tmp 13) (.tmp 13) rfl rfl rfl n0 rfl (by omega) ?_; intro w1 ho1 hb1 hs1)
  have hw1 : w.heap.size ≤ w1.heap.size := by have := hb1.size; simp at this; omega
  have hbw1 : Below w.heap.size w w1 := (below_alloc w _).trans (hb1.mono (by simp))
  have hq : (w.alloc (.cells #[] 22)).heap.size = w.heap.size + 1 := by simp
  rw [hq] at ho1 hs1
  obtain ⟨q, hqq⟩ : ∃ q, q = w.heap.size + 1 := ⟨_, rfl⟩
  have hout1 := Own.below (own_outer_empty w) hb1
  clear hqq q hq
  go_loopg [6] ws.length (fun gg b wr => ∃ (j : Nat) (xs : List Int) (go nn cap : Nat) (us : List Value), b = .slice (some ⟨go, 0, none⟩) nn cap ∧ Below w.heap.size w wr ∧ Hid (ws[j]? = some xs) ∧ xs.length = n0 ∧ w1.heap.size ≤ wr.heap.size ∧
    OwnInts wr w.heap.size (.slice (some ⟨w.heap.size + 1, 0, none⟩) n0 n0) xs ∧ Own wr w.heap.size 22 (.slice (some ⟨go, 0, none⟩) nn cap) us ∧ Rows wr w1.heap.size wr.heap.size us ((ws.take j).filter Words.brB) ∧
    j + gg ≤ ws.length ∧ ws.length ≤ j + gg)
  case atStart =>
    exact ⟨0, _, w.heap.size, 0, 0, [], rfl, hbw1, hwf, by simp, Nat.le_refl _, OwnInts.mono ho1 (by omega), hout1, Rows.nil _ _ _, by omega, by omega⟩
  case round =>
    obtain ⟨j, xs, go, nn, cap, us, rfl, hbw, hxj, hxn, hs0, hli, hou, hrw, hm1, hm2⟩ := hrel
    have hxr : Hid (∀ x ∈ xs, 0 ≤ x ∧ x < k) := Lib.hid (hwm.out xs (List.mem_of_getElem? hxj.out)).2
    have hrl : Hid (us.length ≤ 1024) := Lib.hid (by
      rw [hrw.1]
      have h1 := List.length_filter_le Words.brB (ws.take j)
      have h2 := hwl.out
      rw [List.length_take] at h1
      omega)
    have hjw : j < ws.length := (List.getElem?_eq_some_iff.1 hxj.out).1
    have htk : Hid ((ws.take (j + 1)).filter Words.brB = (ws.take j).filter Words.brB ++ (if Words.brB xs = true then [xs] else [])) := Lib.hid (by
      rw [List.take_add_one, hxj.out, List.filter_append]
      by_cases hp : Words.brB xs = true <;> simp [hp])
    go_wp2_with fail
    refine IsBracelet_s (OwnInts.at hli) (by omega) ?_
    intro w3 b23
    have hbw3 : Below w.heap.size w w3 := hbw.trans (b23.mono hbw.size)
    have hli3 := OwnInts.below hli b23
    have hou3 := Own.below hou b23
    have hrw3 := (hrw.below b23).mono (Nat.le_refl _) b23.size
    have hs3 : w1.heap.size ≤ w3.heap.size := Nat.le_trans hs0 b23.size
    by_cases hp : Words.brB xs = true
    · have hd : Hid (Words.brB xs = true) := Lib.hid hp
      have ht : Hid ((ws.take (j + 1)).filter Words.brB = (ws.take j).filter Words.brB ++ [xs]) := Lib.hid (by rw [htk.out, if_pos hp])
      clear hp
      rw [hd.out]
      have hx3 : IntsAt w3 (.slice (some ⟨w.heap.size + 1, 0, none⟩) n0 n0) xs := OwnInts.at hli3
      go_wp2_with (first
        | (at_builtin; refine app_ints rfl (.tmp 18) (.tmp 19) rfl rfl (own_empty w3) rfl (hx3.below (below_alloc w3 _)) (by rw [hxn]; simp; omega) (by simp) ?_; intro v4 w4 o4 g4; change World.grownBy _ w4 (some w3.heap.size) at g4; obtain ⟨ao4, ca4, rfl, la4, lc4, cc4⟩ := Own.form o4; have b4 : Below w3.heap.size w3 w4 := (below_alloc w3 _).grown g4 (by simp) (by intro k hk; cases hk; exact Nat.le_refl _); have hou4 := Own.below (Own.below hou3 b4) (below_alloc w4 (.cells #[.slice ao4 (ints ([] ++ xs)).length ca4] 22)); have bw4 : w.heap.size ≤ w4.heap.size := Nat.le_trans hbw3.size b4.size)
        | (at_builtin; refine app_val rfl (.tmp 17) (.tmp 21) rfl rfl hou4 rfl (cell_new _ _ _) rfl (by have := hrl.out; omega) (by simp; omega) ?_; intro go5 cap5 w5 o5 g5 n5))
      have hsz4 := b4.size
      have hsz5 := g5.size
      simp at hsz5
      have hli5 := Own.grown (Own.below (OwnInts.below hli3 b4) (below_alloc w4 (.cells #[.slice ao4 (ints ([] ++ xs)).length ca4] 22))) g5 (own_types hou4 (Own.below (OwnInts.below hli3 b4) (below_alloc w4 _)) (by decide))
      have hbw5 : Below w.heap.size w w5 := (((hbw3.trans (b4.mono hbw3.size)).alloc bw4 _).grown g5 (by simp; omega) (fun b hb => by cases hb; exact (Own.lt hou4 rfl).1))
      have hrw5 : Rows w5 w1.heap.size w5.heap.size (us ++ [.slice ao4 (ints ([] ++ xs)).length ca4]) ((ws.take (j + 1)).filter Words.brB) := by
        have h1 := ((hrw3.below b4).below (below_alloc w4 (.cells #[.slice ao4 (ints ([] ++ xs)).length ca4] 22))).outer hou4 g5
        have h2 := Own.grown (Own.below o4 (below_alloc w4 (.cells #[.slice ao4 (ints ([] ++ xs)).length ca4] 22))) g5 (own_types hou4 (Own.below o4 (below_alloc w4 _)) (by decide))
        rw [ht.out]
        exact h1.push (xs := xs) (Own.mono h2 hs3) (fun b hb => (Own.lt o4 hb).1)
      have hs5 : w1.heap.size ≤ w5.heap.size := by omega
      go_wp2_with fail
      refine next_n hxn hli5 hk1 hk4 hxr.out (by omega) ?_ ?_
      · intro ys w6 hy hoy g6
        have hj1 : ws[j + 1]? = some ys := by rw [← hwn.out j xs hxj.out]; exact hy
        have hj1' := Lib.hid hj1
        have hjl := (List.getElem?_eq_some_iff.1 hj1).1
        have hy' := Lib.hid hy
        have hyn : ys.length = n0 := by rw [Perms.nextL_len hy]; exact hxn
        have hsz6 := g6.size
        clear hy hj1
        go_wp2_with fail
        go_roundg (gk - 1)
        case measure => omega
        case rel => exact ⟨j + 1, ys, go5, _, cap5, _, rfl, hbw5.grown g6 hbw5.size (fun b hb => by cases hb; omega), hj1', hyn, Nat.le_trans hs5 hsz6, hoy, Own.grown o5 g6 (own_types hli5 o5 (by decide)), (hrw5.grown g6 (fun b hb => by cases hb; omega)).mono (Nat.le_refl _) hsz6, by omega, by omega⟩
      · intro w6 hy g6
        have hjl : ws.length ≤ j + 1 := by
          rw [hwn.out j xs hxj.out] at hy
          exact List.getElem?_eq_none_iff.1 hy
        have hy' := Lib.hid hy
        have hsz6 := g6.size
        clear hy
        go_wp2_with fail
        refine Hok.out _ _ ?_ (hbw5.grown g6 hbw5.size (fun b hb => by cases hb; omega))
        have hr6 := (hrw5.grown g6 (fun b hb => by cases hb; omega)).mono hw1 hsz6
        have ho6 := Own.grown o5 g6 (own_types hli5 o5 (by decide))
        rw [List.take_of_length_le hjl, ← (show Words.enumW Words.brB n0 k = ws.filter Words.brB from hpt.out)] at hr6
        exact hr6.whole ho6 ho6.inBlk
    · have hd : Hid (Words.brB xs = false) := Lib.hid (by simpa using hp)
      have ht : Hid ((ws.take (j + 1)).filter Words.brB = (ws.take j).filter Words.brB) := Lib.hid (by rw [htk.out, if_neg hp, List.append_nil])
      clear hp
      rw [hd.out]
      rw [← ht.out] at hrw3
      go_wp2_with fail
      refine next_n hxn hli3 hk1 hk4 hxr.out (by omega) ?_ ?_
      · intro ys w6 hy hoy g6
        have hj1 : ws[j + 1]? = some ys := by rw [← hwn.out j xs hxj.out]; exact hy
        have hj1' := Lib.hid hj1
        have hjl := (List.getElem?_eq_some_iff.1 hj1).1
        have hy' := Lib.hid hy
        have hyn : ys.length = n0 := by rw [Perms.nextL_len hy]; exact hxn
        have hsz6 := g6.size
        clear hy hj1
        go_wp2_with fail
        go_roundg (gk - 1)
        case measure => omega
        case rel => exact ⟨j + 1, ys, go, nn, cap, us, rfl, hbw3.grown g6 hbw3.size (fun b hb => by cases hb; omega), hj1', hyn, Nat.le_trans hs3 hsz6, hoy, Own.grown hou3 g6 (own_types hli3 hou3 (by decide)), (hrw3.grown g6 (fun b hb => by cases hb; omega)).mono (Nat.le_refl _) hsz6, by omega, by omega⟩
      · intro w6 hy g6
        have hjl : ws.length ≤ j + 1 := by
          rw [hwn.out j xs hxj.out] at hy
          exact List.getElem?_eq_none_iff.1 hy
        have hy' := Lib.hid hy
        have hsz6 := g6.size
        clear hy
        go_wp2_with fail
        refine Hok.out _ _ ?_ (hbw3.grown g6 hbw3.size (fun b hb => by cases hb; omega))
        have hr6 := (hrw3.grown g6 (fun b hb => by cases hb; omega)).mono hw1 hsz6
        have ho6 := Own.grown hou3 g6 (own_types hli3 hou3 (by decide))
        rw [List.take_of_length_le hjl, ← (show Words.enumW Words.brB n0 k = ws.filter Words.brB from hpt.out)] at hr6
        exact hr6.whole ho6 ho6.inBlk
end Go.Proofs.Ytmlmpneikhdgcaa
