/-
  The next word, the patterns by enumeration.
-/
import Derived.Test.YtblifocccpfmkaaPtn
set_option linter.unusedVariables false
namespace Go.Proofs.Ytblifocccpfmkaa
open Go.RowKit

set_option maxHeartbeats 1600000 in
theorem next_s {q cap B : Nat} {xs : List Int} {k : Int} {w : World} {Q : Ending → World → Prop} (ho : OwnInts w B (.slice (some ⟨q, 0, none⟩) xs.length cap) xs) (hk1 : 1 ≤ k) (hk4 : k ≤ 4) (hr : ∀ x ∈ xs, 0 ≤ x ∧ x < k) (hl : xs.length ≤ 10)
    (hQ1 : ∀ ys w', Perms.nextL k xs = some ys → OwnInts w' B (.slice (some ⟨q, 0, none⟩) ys.length cap) ys → w.grownBy w' (some q) → Q (.returned (.bool true)) w')
    (hQ2 : ∀ w', Perms.nextL k xs = none → w.grownBy w' (some q) → Q (.returned (.bool false)) w') :
    Calls Try.prog 64 #[.slice (some ⟨q, 0, none⟩) xs.length cap, .int .i64 k] w Q := by
  have H1 := Lib.hid hQ1; clear hQ1
  have H2 := Lib.hid hQ2; clear hQ2
  have hr' := Lib.hid hr
  clear hr
  go_enter Try.func64, Try.ntmps64
  have hlz : (xs.length : Int) ≤ 10 := by omega
  go_wp2_with fail
  go_loopg [5] xs.length (fun g i wr => ∃ (z : Int) (j : Nat), i = .int .i64 z ∧ z + 1 = j ∧ w.grownBy wr (some q) ∧ OwnInts wr B (.slice (some ⟨q, 0, none⟩) xs.length cap) (xs.take j ++ List.replicate (xs.length - j) 0) ∧ Hid (Perms.nextL k (xs.drop j) = none) ∧ j ≤ g ∧ j ≤ xs.length)
  case atStart =>
    exact ⟨_, xs.length, rfl, by omega, ⟨rfl, rfl, rfl, Nat.le_refl _, fun _ _ _ => rfl⟩, by simpa using ho, Lib.hid (by rw [List.drop_length]; rfl), by omega, by omega⟩
  case round =>
    obtain ⟨z, j, rfl, hz, hgw, hob, hn, hj1, hj2⟩ := hrel
    by_cases hj : j = 0
    · subst hj
      have hzn : z < 0 := by omega
      go_wp2_with fail
      refine H2.out _ ?_ hgw
      have := hn.out
      rwa [List.drop_zero] at this
    · obtain ⟨m, rfl⟩ : ∃ m, j = m + 1 := ⟨j - 1, by omega⟩
      obtain rfl : z = m := by omega
      have hm : m < xs.length := by omega
      obtain ⟨x, hx⟩ : ∃ x, xs[m]? = some x := ⟨_, List.getElem?_eq_getElem hm⟩
      have hx' := Lib.hid hx
      obtain ⟨x0, x1⟩ := hr'.out x (List.mem_of_getElem? hx)
      have hc : wr.cell? ⟨q, m, none⟩ = some (.int .i64 x) := Own.cell hob (by
        rw [ints_get, List.getElem?_append_left (by rw [List.length_take]; omega), List.getElem?_take, if_pos (by omega), hx]; rfl)
      have hfr := Own.frozen hob m
      have i1 : (m : Int) < xs.length := by omega
      have hd : Hid (xs.drop m = x :: xs.drop (m + 1)) := Lib.hid (by
        obtain ⟨h1, h2⟩ := List.getElem?_eq_some_iff.1 hx
        rw [List.drop_eq_getElem_cons h1, h2])
      have hset : ∀ y : Int, Hid ((xs.take (m + 1) ++ List.replicate (xs.length - (m + 1)) 0).set m y = xs.take m ++ y :: List.replicate (xs.length - (m + 1)) 0) := fun y => Lib.hid (by
        rw [List.set_append_left _ _ (by rw [List.length_take]; omega), List.take_add_one, hx, List.set_append_right _ _ (by rw [List.length_take]; omega), List.length_take, Nat.min_eq_left (by omega), Nat.sub_self]
        simp)
      clear hx hz
      by_cases hlt : x < k - 1
      · have hnx : Hid (Perms.nextL k xs = some (xs.take m ++ (x + 1) :: List.replicate (xs.length - (m + 1)) 0)) := Lib.hid (by
          have h := Perms.nextL_up hn.out hlt (xs.take m)
          rw [← hd.out, List.take_append_drop, List.length_drop] at h
          exact h)
        have hyl : Hid ((xs.take m ++ (x + 1) :: List.replicate (xs.length - (m + 1)) 0).length = xs.length) := Lib.hid (by
          simp only [List.length_append, List.length_take, List.length_cons, List.length_replicate]; omega)
        go_wp2_with fail
        refine H1.out _ _ hnx.out ?_ (grown_trans hgw (grown_set _ _ _ _))
        have h := OwnInts.set hob m (x + 1)
        rw [(hset _).out] at h
        rw [hyl.out]
        exact h
      · have hnx : Hid (Perms.nextL k (xs.drop m) = none) := Lib.hid (by rw [hd.out]; exact Perms.nextL_none hn.out hlt)
        go_wp2_with fail
        go_roundg (gk - 1)
        case measure => omega
        case rel =>
          have h := OwnInts.set hob m 0
          rw [(hset _).out] at h
          refine ⟨_, m, rfl, by omega, grown_trans hgw (grown_set _ _ _ _), ?_, hnx, by omega, by omega⟩
          rw [show xs.length - m = (xs.length - (m + 1)) + 1 from by omega, List.replicate_succ]
          exact h
theorem next_n {q n cap B : Nat} {xs : List Int} {k : Int} {w : World} {Q : Ending → World → Prop} (hn : xs.length = n) (ho : OwnInts w B (.slice (some ⟨q, 0, none⟩) n cap) xs) (hk1 : 1 ≤ k) (hk4 : k ≤ 4) (hr : ∀ x ∈ xs, 0 ≤ x ∧ x < k) (hl : n ≤ 10)
    (hQ1 : ∀ ys w', Perms.nextL k xs = some ys → OwnInts w' B (.slice (some ⟨q, 0, none⟩) n cap) ys → w.grownBy w' (some q) → Q (.returned (.bool true)) w')
    (hQ2 : ∀ w', Perms.nextL k xs = none → w.grownBy w' (some q) → Q (.returned (.bool false)) w') :
    Calls Try.prog 64 #[.slice (some ⟨q, 0, none⟩) n cap, .int .i64 k] w Q := by
  subst hn
  exact next_s ho hk1 hk4 hr hl (fun ys w' h h1 h2 => hQ1 ys w' h (by rw [← Perms.nextL_len h]; exact h1) h2) hQ2
set_option maxHeartbeats 400000 in
theorem isSmall_i {n k : Int} {w : World} {Q : Ending → World → Prop} (hn0 : 0 ≤ n) (hn : n ≤ 10) (hQ : Q (.returned (.bool (decide (1 ≤ k ∧ k ≤ 4) && decide (Nums.pw k n ≤ 1024)))) w) :
    Calls Try.prog 50 #[.int .i64 n, .int .i64 k] w Q := by
  have H := Lib.hid hQ; clear hQ
  by_cases h1 : 1 ≤ k
  · by_cases h2 : k ≤ 4
    · go_enter Try.func50, Try.ntmps50
      go_wp2_with fail
      refine power_i (by omega) h2 hn0 (by omega) ?_
      go_wp2_with fail
      refine boolq' H.out ?_
      rw [decide_eq_true ⟨h1, h2⟩, Bool.true_and]
    · have hf : Hid ((decide (1 ≤ k ∧ k ≤ 4) && decide (Nums.pw k n ≤ 1024)) = false) := Lib.hid (by rw [decide_eq_false (by omega)]; rfl)
      go_enter Try.func50, Try.ntmps50
      go_wp2_with fail
      exact boolq' H.out hf.out
  · have hf : Hid ((decide (1 ≤ k ∧ k ≤ 4) && decide (Nums.pw k n ≤ 1024)) = false) := Lib.hid (by rw [decide_eq_false (by omega)]; rfl)
    go_enter Try.func50, Try.ntmps50
    go_wp2_with fail
    exact boolq' H.out hf.out
set_option maxHeartbeats 1600000 in
theorem patterns_s {vg : Value} {g : List (List Int)} {k : Int} {w : World} {Q : Ending → World → Prop} (hg : RowsAt w vg g) (hs : Perms.smallB g k = true)
    (hQ : ∀ v w', OwnRows w' w.heap.size w'.heap.size v (Perms.pats g k) → Below w.heap.size w w' → Q (.returned v) w') :
    Calls Try.prog 49 #[vg, .int .i64 k] w Q := by
  have H := Lib.hid hQ; clear hQ
  have hg0 := Lib.hid hg
  obtain ⟨hgb, hk1, hk4, hpw⟩ := Perms.smallB_parts hs
  obtain ⟨hr1, hr2⟩ := Perms.row0_len hgb
  have hgn := (Perms.grpB_parts hgb).1
  have hpl := Lib.hid (Perms.pats_len hs)
  have hgb' := Lib.hid hgb
  obtain ⟨aa, ca, rfl, la, lca, cca⟩ := hg.form
  have i0 : (0 : Int) < g.length := by omega
  obtain ⟨b, off, u, p, rfl, hx, hcw, hip⟩ := hg.cell (k := 0) (by omega)
  rw [Nat.add_zero] at hcw
  have hr0 : Hid (Perms.row0 g = p) := Lib.hid (by simp [Perms.row0, hx.out])
  obtain ⟨ap, cp, rfl, lp, _, _⟩ := hip.form
  rw [hr0.out] at hr1 hr2 hpw
  have hwl : Hid ((Perms.wordsN k.toNat p.length).length ≤ 1024) := Lib.hid (by rw [Perms.wordsN_len]; exact hpw)
  have hwm : Hid (∀ w ∈ Perms.wordsN k.toNat p.length, w.length = p.length ∧ ∀ x ∈ w, 0 ≤ x ∧ x < k) := Lib.hid fun w hw => by
    obtain ⟨h1, h2⟩ := Perms.wordsN_mem.1 hw
    exact ⟨h1, fun x hx => by have := h2 x hx; omega⟩
  have hwf := Lib.hid (Perms.wordsN_first k.toNat (by omega) p.length)
  have hwn : Hid (∀ (j : Nat) (w : List Int), (Perms.wordsN k.toNat p.length)[j]? = some w → Perms.nextL k w = (Perms.wordsN k.toNat p.length)[j + 1]?) := Lib.hid fun j w hw => by
    have := Perms.wordsN_next (by omega) hw
    rwa [show ((k.toNat : Nat) : Int) = k from by omega] at this
  have hpt : Hid (Perms.pats g k = (Perms.wordsN k.toNat p.length).filter (Perms.isPat g)) := Lib.hid (by unfold Perms.pats; rw [hr0.out])
  obtain ⟨ws, hws⟩ : ∃ ws, ws = Perms.wordsN k.toNat p.length := ⟨_, rfl⟩
  rw [← hws] at hwl hwm hwf hwn hpt
  clear hws hs hgb hpw
  go_enter Try.func49, Try.ntmps49
  have hcw2 := below_cells (below_alloc w (.cells #[] 23)) _ _ hcw
  go_wp2_with (at_make; refine mk_ints rfl (.tmp 11) (.tmp 11) rfl rfl rfl p.length rfl (by omega) ?_; intro w1 ho1 hb1 hs1)
  have hw1 : w.heap.size ≤ w1.heap.size := by have := hb1.size; simp at this; omega
  have hbw1 : Below w.heap.size w w1 := (below_alloc w _).trans (hb1.mono (by simp))
  have hq : (w.alloc (.cells #[] 23)).heap.size = w.heap.size + 1 := by simp
  rw [hq] at ho1 hs1
  obtain ⟨q, hqq⟩ : ∃ q, q = w.heap.size + 1 := ⟨_, rfl⟩
  have hout1 := Own.below (own_outer_empty w) hb1
  clear hqq q hq
  go_loopg [5] ws.length (fun gg b wr => ∃ (j : Nat) (xs : List Int) (go n cap : Nat) (us : List Value), b = .slice (some ⟨go, 0, none⟩) n cap ∧ Below w.heap.size w wr ∧ Hid (ws[j]? = some xs) ∧ xs.length = p.length ∧ w1.heap.size ≤ wr.heap.size ∧
    OwnInts wr w.heap.size (.slice (some ⟨w.heap.size + 1, 0, none⟩) p.length p.length) xs ∧ Own wr w.heap.size 23 (.slice (some ⟨go, 0, none⟩) n cap) us ∧ Rows wr w1.heap.size wr.heap.size us ((ws.take j).filter (Perms.isPat g)) ∧
    j + gg ≤ ws.length ∧ ws.length ≤ j + gg)
  case atStart =>
    exact ⟨0, _, w.heap.size, 0, 0, [], rfl, hbw1, hwf, by simp, Nat.le_refl _, OwnInts.mono ho1 (by omega), hout1, Rows.nil _ _ _, by omega, by omega⟩
  case round =>
    obtain ⟨j, xs, go, n, cap, us, rfl, hbw, hxj, hxn, hs0, hli, hou, hrw, hm1, hm2⟩ := hrel
    have hxr : Hid (∀ x ∈ xs, 0 ≤ x ∧ x < k) := Lib.hid (hwm.out xs (List.mem_of_getElem? hxj.out)).2
    have hfit := Lib.hid (Perms.grp_fit (l := xs) hgb'.out (by rw [hr0.out]; exact hxn))
    have hrl : Hid (us.length ≤ 1024) := Lib.hid (by
      rw [hrw.1]
      have h1 := List.length_filter_le (Perms.isPat g) (ws.take j)
      have h2 := hwl.out
      rw [List.length_take] at h1
      omega)
    have hjw : j < ws.length := (List.getElem?_eq_some_iff.1 hxj.out).1
    have htk : Hid ((ws.take (j + 1)).filter (Perms.isPat g) = (ws.take j).filter (Perms.isPat g) ++ (if Perms.isPat g xs = true then [xs] else [])) := Lib.hid (by
      rw [List.take_add_one, hxj.out, List.filter_append]
      by_cases hp : Perms.isPat g xs = true <;> simp [hp])
    go_wp2_with fail
    refine canon_s (hg0.out.below hbw) (OwnInts.at hli) hfit.out ?_
    intro v2 w2 o2 b2
    have hbw2 := hbw.trans (b2.mono hbw.size)
    go_wp2_with fail
    refine l03Same_c o2.at (OwnInts.at (OwnInts.below hli b2)) ?_
    intro w3 d3
    have b23 : Below wr.heap.size wr w3 := b2.trans (d3.below _)
    have hbw3 : Below w.heap.size w w3 := hbw2.trans (d3.below _)
    have hli3 := OwnInts.below hli b23
    have hou3 := Own.below hou b23
    have hrw3 := (hrw.below b23).mono (Nat.le_refl _) b23.size
    have hs3 : w1.heap.size ≤ w3.heap.size := Nat.le_trans hs0 b23.size
    by_cases hp : Perms.canon g xs = xs
    · have hd : Hid (decide (Perms.canon g xs = xs) = true) := Lib.hid (decide_eq_true hp)
      have ht : Hid ((ws.take (j + 1)).filter (Perms.isPat g) = (ws.take j).filter (Perms.isPat g) ++ [xs]) := Lib.hid (by rw [htk.out, if_pos (show Perms.isPat g xs = true from decide_eq_true hp)])
      clear hp
      rw [hd.out]
      have hx3 : IntsAt w3 (.slice (some ⟨w.heap.size + 1, 0, none⟩) p.length p.length) xs := OwnInts.at hli3
      go_wp2_with (first
        | (at_builtin; refine app_ints rfl (.tmp 19) (.tmp 20) rfl rfl (own_empty w3) rfl (hx3.below (below_alloc w3 _)) (by rw [hxn]; simp; omega) (by simp) ?_; intro v4 w4 o4 g4; change World.grownBy _ w4 (some w3.heap.size) at g4; obtain ⟨ao4, ca4, rfl, la4, lc4, cc4⟩ := Own.form o4; have b4 : Below w3.heap.size w3 w4 := (below_alloc w3 _).grown g4 (by simp) (by intro k hk; cases hk; exact Nat.le_refl _); have hou4 := Own.below (Own.below hou3 b4) (below_alloc w4 (.cells #[.slice ao4 (ints ([] ++ xs)).length ca4] 23)); have bw4 : w.heap.size ≤ w4.heap.size := Nat.le_trans hbw3.size b4.size)
        | (at_builtin; refine app_val rfl (.tmp 18) (.tmp 22) rfl rfl hou4 rfl (cell_new _ _ _) rfl (by have := hrl.out; omega) (by simp; omega) ?_; intro go5 cap5 w5 o5 g5 n5))
      have hsz4 := b4.size
      have hsz5 := g5.size
      simp at hsz5
      have hli5 := Own.grown (Own.below (OwnInts.below hli3 b4) (below_alloc w4 (.cells #[.slice ao4 (ints ([] ++ xs)).length ca4] 23))) g5 (own_types hou4 (Own.below (OwnInts.below hli3 b4) (below_alloc w4 _)) (by decide))
      have hbw5 : Below w.heap.size w w5 := (((hbw3.trans (b4.mono hbw3.size)).alloc bw4 _).grown g5 (by simp; omega) (fun b hb => by cases hb; exact (Own.lt hou4 rfl).1))
      have hrw5 : Rows w5 w1.heap.size w5.heap.size (us ++ [.slice ao4 (ints ([] ++ xs)).length ca4]) ((ws.take (j + 1)).filter (Perms.isPat g)) := by
        have h1 := ((hrw3.below b4).below (below_alloc w4 (.cells #[.slice ao4 (ints ([] ++ xs)).length ca4] 23))).outer hou4 g5
        have h2 := Own.grown (Own.below o4 (below_alloc w4 (.cells #[.slice ao4 (ints ([] ++ xs)).length ca4] 23))) g5 (own_types hou4 (Own.below o4 (below_alloc w4 _)) (by decide))
        rw [ht.out]
        exact h1.push (xs := xs) (Own.mono h2 hs3) (fun b hb => (Own.lt o4 hb).1)
      have hs5 : w1.heap.size ≤ w5.heap.size := by omega
      go_wp2_with fail
      refine next_n hxn hli5 hk1 hk4 hxr.out (by omega) ?_ ?_
      · intro ys w6 hy hoy g6
        have hj1 : ws[j + 1]? = some ys := by rw [← hwn.out j xs hxj.out]; exact hy
        have hj1' := Lib.hid hj1
        have hjl := (List.getElem?_eq_some_iff.1 hj1).1
        have hy' := Lib.hid hy
        have hyn : ys.length = p.length := by rw [Perms.nextL_len hy]; exact hxn
        have hsz6 := g6.size
        clear hy hj1
        go_wp2_with fail
        go_roundg (gk - 1)
        case measure => omega
        case rel => exact ⟨j + 1, ys, go5, _, cap5, _, rfl, hbw5.grown g6 hbw5.size (fun b hb => by cases hb; omega), hj1', hyn, Nat.le_trans hs5 hsz6, hoy, Own.grown o5 g6 (own_types hli5 o5 (by decide)), (hrw5.grown g6 (fun b hb => by cases hb; omega)).mono (Nat.le_refl _) hsz6, by omega, by omega⟩
      · intro w6 hy g6
        have hjl : ws.length ≤ j + 1 := by
          rw [hwn.out j xs hxj.out] at hy
          exact List.getElem?_eq_none_iff.1 hy
        have hy' := Lib.hid hy
        have hsz6 := g6.size
        clear hy
        go_wp2_with fail
        refine H.out _ _ ?_ (hbw5.grown g6 hbw5.size (fun b hb => by cases hb; omega))
        have hr6 := (hrw5.grown g6 (fun b hb => by cases hb; omega)).mono hw1 hsz6
        have ho6 := Own.grown o5 g6 (own_types hli5 o5 (by decide))
        rw [List.take_of_length_le hjl, ← hpt.out] at hr6
        exact hr6.whole ho6 ho6.inBlk
    · have hd : Hid (decide (Perms.canon g xs = xs) = false) := Lib.hid (decide_eq_false hp)
      have ht : Hid ((ws.take (j + 1)).filter (Perms.isPat g) = (ws.take j).filter (Perms.isPat g)) := Lib.hid (by rw [htk.out, if_neg (by unfold Perms.isPat; rw [decide_eq_false hp]; simp), List.append_nil])
      clear hp
      rw [hd.out]
      rw [← ht.out] at hrw3
      go_wp2_with fail
      refine next_n hxn hli3 hk1 hk4 hxr.out (by omega) ?_ ?_
      · intro ys w6 hy hoy g6
        have hj1 : ws[j + 1]? = some ys := by rw [← hwn.out j xs hxj.out]; exact hy
        have hj1' := Lib.hid hj1
        have hjl := (List.getElem?_eq_some_iff.1 hj1).1
        have hy' := Lib.hid hy
        have hyn : ys.length = p.length := by rw [Perms.nextL_len hy]; exact hxn
        have hsz6 := g6.size
        clear hy hj1
        go_wp2_with fail
        go_roundg (gk - 1)
        case measure => omega
        case rel => exact ⟨j + 1, ys, go, n, cap, us, rfl, hbw3.grown g6 hbw3.size (fun b hb => by cases hb; omega), hj1', hyn, Nat.le_trans hs3 hsz6, hoy, Own.grown hou3 g6 (own_types hli3 hou3 (by decide)), (hrw3.grown g6 (fun b hb => by cases hb; omega)).mono (Nat.le_refl _) hsz6, by omega, by omega⟩
      · intro w6 hy g6
        have hjl : ws.length ≤ j + 1 := by
          rw [hwn.out j xs hxj.out] at hy
          exact List.getElem?_eq_none_iff.1 hy
        have hy' := Lib.hid hy
        have hsz6 := g6.size
        clear hy
        go_wp2_with fail
        refine H.out _ _ ?_ (hbw3.grown g6 hbw3.size (fun b hb => by cases hb; omega))
        have hr6 := (hrw3.grown g6 (fun b hb => by cases hb; omega)).mono hw1 hsz6
        have ho6 := Own.grown hou3 g6 (own_types hli3 hou3 (by decide))
        rw [List.take_of_length_le hjl, ← hpt.out] at hr6
        exact hr6.whole ho6 ho6.inBlk
end Go.Proofs.Ytblifocccpfmkaa
