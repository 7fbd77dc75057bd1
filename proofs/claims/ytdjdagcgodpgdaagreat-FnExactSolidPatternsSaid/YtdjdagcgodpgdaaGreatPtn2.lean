/-
  The patterns by enumeration.
-/
import Derived.Test.YtdjdagcgodpgdaaGreatPtn
import Derived.Test.YtdjdagcgodpgdaaGreatNxt
import Derived.Test.YtdjdagcgodpgdaaGreatIsm
set_option linter.unusedVariables false
namespace Go.Proofs.YtdjdagcgodpgdaaGreat
open Go.RowKit

set_option maxHeartbeats 1600000 in
theorem patterns_s {vg : Value} {g : List (List Int)} {k : Int} {w : World} {Q : Ending → World → Prop} (hg : RowsAt w vg g) (hs : Perms.smallB g k = true)
    (hQ : ∀ v w', OwnRows w' w.heap.size w'.heap.size v (Perms.pats g k) → Below w.heap.size w w' → Q (.returned v) w') :
    Calls Tryz.prog 31 #[vg, .int .i64 k] w Q := by
  have H := Lib.hid hQ; clear hQ
  have hg0 := Lib.hid hg
  obtain ⟨hgb, hk1, hk4, hpw⟩ := Perms.smallB_parts hs
  obtain ⟨hr1, hr2⟩ := Perms.row0_len hgb
  have hgn := (Perms.grpB_parts hgb).1
  have hpl := Lib.hid (Perms.pats_len hs)
  have hgb' := Lib.hid hgb
  obtain ⟨aa, ca, rfl, la, lca, cca⟩ := hg.form
  have i0 : (0 : Int) < g.length := by omega
  obtain ⟨b, off, u, p, rfl, hx, hcw, hip⟩ := hg.cell (k := 0) (by omega)
  rw [Nat.add_zero] at hcw
  have hr0 : Hid (Perms.row0 g = p) := Lib.hid (by simp [Perms.row0, hx.out])
  obtain ⟨ap, cp, rfl, lp, _, _⟩ := hip.form
  rw [hr0.out] at hr1 hr2 hpw
  have hwl : Hid ((Perms.wordsN k.toNat p.length).length ≤ 1024) := Lib.hid (by rw [Perms.wordsN_len]; exact hpw)
  have hwm : Hid (∀ w ∈ Perms.wordsN k.toNat p.length, w.length = p.length ∧ ∀ x ∈ w, 0 ≤ x ∧ x < k) := Lib.hid fun w hw => by
    obtain ⟨h1, h2⟩ := Perms.wordsN_mem.1 hw
    exact ⟨h1, fun x hx => by have := h2 x hx; omega⟩
  have hwf := Lib.hid (Perms.wordsN_first k.toNat (by omega) p.length)
  have hwn : Hid (∀ (j : Nat) (w : List Int), (Perms.wordsN k.toNat p.length)[j]? = some w → Perms.nextL k w = (Perms.wordsN k.toNat p.length)[j + 1]?) := Lib.hid fun j w hw => by
    have := Perms.wordsN_next (by omega) hw
    rwa [show ((k.toNat : Nat) : Int) = k from by omega] at this
  have hpt : Hid (Perms.pats g k = (Perms.wordsN k.toNat p.length).filter (Perms.isPat g)) := Lib.hid (by unfold Perms.pats; rw [hr0.out])
  obtain ⟨ws, hws⟩ : ∃ ws, ws = Perms.wordsN k.toNat p.length := ⟨_, rfl⟩
  rw [← hws] at hwl hwm hwf hwn hpt
  clear hws hs hgb hpw
  go_enter Tryz.func31, Tryz.ntmps31
  have hcw2 := below_cells (below_alloc w (.cells #[] 36)) _ _ hcw
  go_wp2_with (at_make; refine mk_ints rfl (.tmp 11) (.tmp 11) rfl rfl rfl p.length rfl (by omega) ?_; intro w1 ho1 hb1 hs1)
  have hw1 : w.heap.size ≤ w1.heap.size := by have := hb1.size; simp at this; omega
  have hbw1 : Below w.heap.size w w1 := (below_alloc w _).trans (hb1.mono (by simp))
  have hq : (w.alloc (.cells #[] 36)).heap.size = w.heap.size + 1 := by simp
  rw [hq] at ho1 hs1
  obtain ⟨q, hqq⟩ : ∃ q, q = w.heap.size + 1 := ⟨_, rfl⟩
  have hout1 := Own.below (own_outer_empty w) hb1
  clear hqq q hq
  go_loopg [5] ws.length (fun gg b wr => ∃ (j : Nat) (xs : List Int) (go n cap : Nat) (us : List Value), b = .slice (some ⟨go, 0, none⟩) n cap ∧ Below w.heap.size w wr ∧ Hid (ws[j]? = some xs) ∧ xs.length = p.length ∧ w1.heap.size ≤ wr.heap.size ∧
    OwnInts wr w.heap.size (.slice (some ⟨w.heap.size + 1, 0, none⟩) p.length p.length) xs ∧ Own wr w.heap.size 36 (.slice (some ⟨go, 0, none⟩) n cap) us ∧ Rows wr w1.heap.size wr.heap.size us ((ws.take j).filter (Perms.isPat g)) ∧
    j + gg ≤ ws.length ∧ ws.length ≤ j + gg)
  case atStart =>
    exact ⟨0, _, w.heap.size, 0, 0, [], rfl, hbw1, hwf, by simp, Nat.le_refl _, OwnInts.mono ho1 (by omega), hout1, Rows.nil _ _ _, by omega, by omega⟩
  case round =>
    obtain ⟨j, xs, go, n, cap, us, rfl, hbw, hxj, hxn, hs0, hli, hou, hrw, hm1, hm2⟩ := hrel
    have hxr : Hid (∀ x ∈ xs, 0 ≤ x ∧ x < k) := Lib.hid (hwm.out xs (List.mem_of_getElem? hxj.out)).2
    have hfit := Lib.hid (Perms.grp_fit (l := xs) hgb'.out (by rw [hr0.out]; exact hxn))
    have hrl : Hid (us.length ≤ 1024) := Lib.hid (by
      rw [hrw.1]
      have h1 := List.length_filter_le (Perms.isPat g) (ws.take j)
      have h2 := hwl.out
      rw [List.length_take] at h1
      omega)
    have hjw : j < ws.length := (List.getElem?_eq_some_iff.1 hxj.out).1
    have htk : Hid ((ws.take (j + 1)).filter (Perms.isPat g) = (ws.take j).filter (Perms.isPat g) ++ (if Perms.isPat g xs = true then [xs] else [])) := Lib.hid (by
      rw [List.take_add_one, hxj.out, List.filter_append]
      by_cases hp : Perms.isPat g xs = true <;> simp [hp])
    go_wp2_with fail
    refine canon_s (hg0.out.below hbw) (OwnInts.at hli) hfit.out ?_
    intro v2 w2 o2 b2
    have hbw2 := hbw.trans (b2.mono hbw.size)
    go_wp2_with fail
    refine l03Same_c o2.at (OwnInts.at (OwnInts.below hli b2)) ?_
    intro w3 d3
    have b23 : Below wr.heap.size wr w3 := b2.trans (d3.below _)
    have hbw3 : Below w.heap.size w w3 := hbw2.trans (d3.below _)
    have hli3 := OwnInts.below hli b23
    have hou3 := Own.below hou b23
    have hrw3 := (hrw.below b23).mono (Nat.le_refl _) b23.size
    have hs3 : w1.heap.size ≤ w3.heap.size := Nat.le_trans hs0 b23.size
    by_cases hp : Perms.canon g xs = xs
    · have hd : Hid (decide (Perms.canon g xs = xs) = true) := Lib.hid (decide_eq_true hp)
      have ht : Hid ((ws.take (j + 1)).filter (Perms.isPat g) = (ws.take j).filter (Perms.isPat g) ++ [xs]) := Lib.hid (by rw [htk.out, if_pos (show Perms.isPat g xs = true from decide_eq_true hp)])
      clear hp
      rw [hd.out]
      have hx3 : IntsAt w3 (.slice (some ⟨w.heap.size + 1, 0, none⟩) p.length p.length) xs := OwnInts.at hli3
      go_wp2_with (first
        | (at_builtin; refine app_ints rfl (.tmp 19) (.tmp 20) rfl rfl (own_empty w3) rfl (hx3.below (below_alloc w3 _)) (by rw [hxn]; simp; omega) (by simp) ?_; intro v4 w4 o4 g4; change World.grownBy _ w4 (some w3.heap.size) at g4; obtain ⟨ao4, ca4, rfl, la4, lc4, cc4⟩ := Own.form o4; have b4 : Below w3.heap.size w3 w4 := (below_alloc w3 _).grown g4 (by simp) (by intro k hk; cases hk; exact Nat.le_refl _); have hou4 := Own.below (Own.below hou3 b4) (below_alloc w4 (.cells #[.slice ao4 (ints ([] ++ xs)).length ca4] 36)); have bw4 : w.heap.size ≤ w4.heap.size := Nat.le_trans hbw3.size b4.size)
        | (at_builtin; refine app_val rfl (.tmp 18) (.tmp 22) rfl rfl hou4 rfl (cell_new _ _ _) rfl (by have := hrl.out; omega) (by simp; omega) ?_; intro go5 cap5 w5 o5 g5 n5))
      have hsz4 := b4.size
      have hsz5 := g5.size
      simp at hsz5
      have hli5 := Own.grown (Own.below (OwnInts.below hli3 b4) (below_alloc w4 (.cells #[.slice ao4 (ints ([] ++ xs)).length ca4] 36))) g5 (own_types hou4 (Own.below (OwnInts.below hli3 b4) (below_alloc w4 _)) (by decide))
      have hbw5 : Below w.heap.size w w5 := (((hbw3.trans (b4.mono hbw3.size)).alloc bw4 _).grown g5 (by simp; omega) (fun b hb => by cases hb; exact (Own.lt hou4 rfl).1))
      have hrw5 : Rows w5 w1.heap.size w5.heap.size (us ++ [.slice ao4 (ints ([] ++ xs)).length ca4]) ((ws.take (j + 1)).filter (Perms.isPat g)) := by
        have h1 := ((hrw3.below b4).below (below_alloc w4 (.cells #[.slice ao4 (ints ([] ++ xs)).length ca4] 36))).outer hou4 g5
        have h2 := Own.grown (Own.below o4 (below_alloc w4 (.cells #[.slice ao4 (ints ([] ++ xs)).length ca4] 36))) g5 (own_types hou4 (Own.below o4 (below_alloc w4 _)) (by decide))
        rw [ht.out]
        exact h1.push (xs := xs) (Own.mono h2 hs3) (fun b hb => (Own.lt o4 hb).1)
      have hs5 : w1.heap.size ≤ w5.heap.size := by omega
      go_wp2_with fail
      refine next_n hxn hli5 hk1 hk4 hxr.out (by omega) ?_ ?_
      · intro ys w6 hy hoy g6
        have hj1 : ws[j + 1]? = some ys := by rw [← hwn.out j xs hxj.out]; exact hy
        have hj1' := Lib.hid hj1
        have hjl := (List.getElem?_eq_some_iff.1 hj1).1
        have hy' := Lib.hid hy
        have hyn : ys.length = p.length := by rw [Perms.nextL_len hy]; exact hxn
        have hsz6 := g6.size
        clear hy hj1
        go_wp2_with fail
        go_roundg (gk - 1)
        case measure => omega
        case rel => exact ⟨j + 1, ys, go5, _, cap5, _, rfl, hbw5.grown g6 hbw5.size (fun b hb => by cases hb; omega), hj1', hyn, Nat.le_trans hs5 hsz6, hoy, Own.grown o5 g6 (own_types hli5 o5 (by decide)), (hrw5.grown g6 (fun b hb => by cases hb; omega)).mono (Nat.le_refl _) hsz6, by omega, by omega⟩
      · intro w6 hy g6
        have hjl : ws.length ≤ j + 1 := by
          rw [hwn.out j xs hxj.out] at hy
          exact List.getElem?_eq_none_iff.1 hy
        have hy' := Lib.hid hy
        have hsz6 := g6.size
        clear hy
        go_wp2_with fail
        refine H.out _ _ ?_ (hbw5.grown g6 hbw5.size (fun b hb => by cases hb; omega))
        have hr6 := (hrw5.grown g6 (fun b hb => by cases hb; omega)).mono hw1 hsz6
        have ho6 := Own.grown o5 g6 (own_types hli5 o5 (by decide))
        rw [List.take_of_length_le hjl, ← hpt.out] at hr6
        exact hr6.whole ho6 ho6.inBlk
    · have hd : Hid (decide (Perms.canon g xs = xs) = false) := Lib.hid (decide_eq_false hp)
      have ht : Hid ((ws.take (j + 1)).filter (Perms.isPat g) = (ws.take j).filter (Perms.isPat g)) := Lib.hid (by rw [htk.out, if_neg (by unfold Perms.isPat; rw [decide_eq_false hp]; simp), List.append_nil])
      clear hp
      rw [hd.out]
      rw [← ht.out] at hrw3
      go_wp2_with fail
      refine next_n hxn hli3 hk1 hk4 hxr.out (by omega) ?_ ?_
      · intro ys w6 hy hoy g6
        have hj1 : ws[j + 1]? = some ys := by rw [← hwn.out j xs hxj.out]; exact hy
        have hj1' := Lib.hid hj1
        have hjl := (List.getElem?_eq_some_iff.1 hj1).1
        have hy' := Lib.hid hy
        have hyn : ys.length = p.length := by rw [Perms.nextL_len hy]; exact hxn
        have hsz6 := g6.size
        clear hy hj1
        go_wp2_with fail
        go_roundg (gk - 1)
        case measure => omega
        case rel => exact ⟨j + 1, ys, go, n, cap, us, rfl, hbw3.grown g6 hbw3.size (fun b hb => by cases hb; omega), hj1', hyn, Nat.le_trans hs3 hsz6, hoy, Own.grown hou3 g6 (own_types hli3 hou3 (by decide)), (hrw3.grown g6 (fun b hb => by cases hb; omega)).mono (Nat.le_refl _) hsz6, by omega, by omega⟩
      · intro w6 hy g6
        have hjl : ws.length ≤ j + 1 := by
          rw [hwn.out j xs hxj.out] at hy
          exact List.getElem?_eq_none_iff.1 hy
        have hy' := Lib.hid hy
        have hsz6 := g6.size
        clear hy
        go_wp2_with fail
        refine H.out _ _ ?_ (hbw3.grown g6 hbw3.size (fun b hb => by cases hb; omega))
        have hr6 := (hrw3.grown g6 (fun b hb => by cases hb; omega)).mono hw1 hsz6
        have ho6 := Own.grown hou3 g6 (own_types hli3 hou3 (by decide))
        rw [List.take_of_length_le hjl, ← hpt.out] at hr6
        exact hr6.whole ho6 ho6.inBlk
end Go.Proofs.YtdjdagcgodpgdaaGreat
