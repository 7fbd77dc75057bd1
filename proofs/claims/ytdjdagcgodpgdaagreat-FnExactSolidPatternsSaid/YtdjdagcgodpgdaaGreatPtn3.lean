/-
  The patterns, on both sides.
-/
import Derived.Test.YtdjdagcgodpgdaaGreatPtn2
set_option linter.unusedVariables false
namespace Go.Proofs.YtdjdagcgodpgdaaGreat
open Go.RowKit

set_option maxHeartbeats 1600000 in
theorem PatternsOf_s {vg : Value} {g : List (List Int)} {k : Int} {w : World} {Q : Ending → World → Prop} (hg : RowsAt w vg g)
    (hQ : ∀ v w', OwnRows w' w.heap.size w'.heap.size v (Perms.patsW g k) → Below w.heap.size w w' → Q (.returned (.tuple #[v, .bool (Perms.smallB g k)])) w') :
    Calls Tryz.prog 16 #[vg, .int .i64 k] w Q := by
  have H := Lib.hid hQ; clear hQ
  have hg0 := Lib.hid hg
  obtain ⟨aa, ca, rfl, la, lca, cca⟩ := hg.form
  have bad : ∀ w', Below w.heap.size w w' → Perms.smallB g k = false → Q (.returned (.tuple #[.slice none 0 0, .bool false])) w' := fun w' hb hf => by
    have := H.out (.slice none 0 0) w' (by unfold Perms.patsW; rw [if_neg (by rw [hf]; simp)]; exact OwnRows.nil _ _ _) hb
    rw [hf] at this; exact this
  have bad' := Lib.hid bad
  clear bad
  go_enter Tryz.func16, Tryz.ntmps16
  go_wp2_with fail
  refine GroupOk_s hg0.out ?_
  intro w1 b1
  by_cases hgb : Perms.grpB g = true
  rotate_left
  · have hgf : Perms.grpB g = false := by simpa using hgb
    have hf : Hid (Perms.smallB g k = false) := Lib.hid (by unfold Perms.smallB; rw [hgf]; rfl)
    clear hgb
    go_wp2_with fail
    exact bad'.out _ b1 hf.out
  have hn := (Perms.grpB_parts hgb).1
  obtain ⟨hr1, hr2⟩ := Perms.row0_len hgb
  have i1 : (0 : Int) < g.length := by omega
  obtain ⟨b, off, u, p, rfl, hx, hcw, hip⟩ := hg.cell (k := 0) (by omega)
  rw [Nat.add_zero] at hcw
  have hc := below_cells b1 _ _ hcw
  obtain ⟨ap, cp, rfl, lp, _, _⟩ := hip.form
  have hr0 : Hid (Perms.row0 g = p) := Lib.hid (by simp [Perms.row0, hx.out])
  rw [hr0.out] at hr1 hr2
  have hsm : Hid (Perms.smallB g k = (decide (1 ≤ k ∧ k ≤ 4) && decide (Nums.pw k p.length ≤ 1024))) := Lib.hid (by unfold Perms.smallB; rw [hgb, hr0.out, Bool.true_and])
  have hgb' := Lib.hid hgb
  by_cases hk : 1 ≤ k ∧ k ≤ 4
  · have hd : Hid (decide (1 ≤ k ∧ k ≤ 4) = true) := Lib.hid (decide_eq_true hk)
    obtain ⟨hk1, hk4⟩ := hk
    go_wp2_with (go_at_call 29; refine l01In_c ?_; rw [hd.out])
    refine power_s (by omega) hk4 (by omega) (by omega) ?_
    by_cases hpw : Nums.pw k p.length ≤ 1024
    · have hs : Hid (Perms.smallB g k = true) := Lib.hid (by rw [hsm.out, hd.out, decide_eq_true hpw]; rfl)
      clear hgb
      go_wp2_with fail
      refine patterns_s (hg0.out.below b1) hs.out ?_
      intro v2 w2 o2 b2
      have h2 := H.out v2 w2 (by unfold Perms.patsW; rw [if_pos hs.out]; exact OwnRows.mono o2 b1.size (Nat.le_refl _)) (b1.trans (b2.mono b1.size))
      rw [hs.out] at h2
      have h3 := Lib.hid h2
      clear h2
      go_wp2_with fail
      exact h3.out
    · have hf : Hid (Perms.smallB g k = false) := Lib.hid (by rw [hsm.out, decide_eq_false hpw, Bool.and_false])
      clear hgb
      go_wp2_with fail
      exact bad'.out _ b1 hf.out
  · have hd : Hid (decide (1 ≤ k ∧ k ≤ 4) = false) := Lib.hid (decide_eq_false hk)
    have hf : Hid (Perms.smallB g k = false) := Lib.hid (by rw [hsm.out, hd.out]; rfl)
    clear hgb hk
    go_wp2_with (go_at_call 29; refine l01In_c ?_; rw [hd.out])
    exact bad'.out _ b1 hf.out
set_option maxHeartbeats 1600000 in
theorem PatternsOf_i {vg : Value} {g : List (List Int)} {k : Int} {w : World} {Q : Ending → World → Prop} (hg : RowsAt w vg g)
    (hQ : ∀ v w', OwnRows w' w.heap.size w'.heap.size v (Perms.patsW g k) → Below w.heap.size w w' → Q (.returned (.tuple #[v, .bool (Perms.smallB g k)])) w') :
    Calls Tryz.prog 18 #[vg, .int .i64 k] w Q := by
  have H := Lib.hid hQ; clear hQ
  have hg0 := Lib.hid hg
  obtain ⟨aa, ca, rfl, la, lca, cca⟩ := hg.form
  have bad : ∀ w', Below w.heap.size w w' → Perms.smallB g k = false → Q (.returned (.tuple #[.slice none 0 0, .bool false])) w' := fun w' hb hf => by
    have := H.out (.slice none 0 0) w' (by unfold Perms.patsW; rw [if_neg (by rw [hf]; simp)]; exact OwnRows.nil _ _ _) hb
    rw [hf] at this; exact this
  have bad' := Lib.hid bad
  clear bad
  go_enter Tryz.func18, Tryz.ntmps18
  go_wp2_with fail
  refine GroupOk_i hg0.out ?_
  intro w1 b1
  by_cases hgb : Perms.grpB g = true
  rotate_left
  · have hgf : Perms.grpB g = false := by simpa using hgb
    have hf : Hid (Perms.smallB g k = false) := Lib.hid (by unfold Perms.smallB; rw [hgf]; rfl)
    clear hgb
    go_wp2_with fail
    exact bad'.out _ b1 hf.out
  have hn := (Perms.grpB_parts hgb).1
  obtain ⟨hr1, hr2⟩ := Perms.row0_len hgb
  have i1 : (0 : Int) < g.length := by omega
  obtain ⟨b, off, u, p, rfl, hx, hcw, hip⟩ := hg.cell (k := 0) (by omega)
  rw [Nat.add_zero] at hcw
  have hc := below_cells b1 _ _ hcw
  obtain ⟨ap, cp, rfl, lp, _, _⟩ := hip.form
  have hr0 : Hid (Perms.row0 g = p) := Lib.hid (by simp [Perms.row0, hx.out])
  rw [hr0.out] at hr1 hr2
  have hsm : Hid (Perms.smallB g k = (decide (1 ≤ k ∧ k ≤ 4) && decide (Nums.pw k p.length ≤ 1024))) := Lib.hid (by unfold Perms.smallB; rw [hgb, hr0.out, Bool.true_and])
  have hgb' := Lib.hid hgb
  go_wp2_with fail
  refine isSmall_i (by omega) (by omega) ?_
  rw [← hsm.out]
  by_cases hs0 : Perms.smallB g k = true
  rotate_left
  · have hf : Hid (Perms.smallB g k = false) := Lib.hid (by simpa using hs0)
    rw [hf.out]
    clear hgb hs0
    go_wp2_with fail
    exact bad'.out _ b1 hf.out
  have hs := Lib.hid hs0
  obtain ⟨_, hk1, hk4, hpw⟩ := Perms.smallB_parts hs0
  rw [hr0.out] at hpw
  have hpw' := Lib.hid hpw
  rw [hs.out]
  clear hgb hs0 hpw
  have hb1 := b1.size
  have hc2 := below_cells (below_alloc w1 (.cells #[] 36)) _ _ hc
  go_wp2_with fail
  refine wordsOf_i hk1 hk4 hr2 hpw'.out ?_
  intro vw w2 oW b2
  have hsz2 := b2.size
  simp at hsz2
  have hq : (w1.alloc (.cells #[] 36)).heap.size = w1.heap.size + 1 := by simp
  have hb12 : Below w1.heap.size w1 w2 := (below_alloc w1 _).trans (b2.mono (by simp))
  have hout1 := (Own.below (own_outer_empty w1) b2).mono hb1
  rw [hq] at oW
  have hpt : Hid (Perms.pats g k = (Perms.wordsN k.toNat p.length).filter (Perms.isPat g)) := Lib.hid (by unfold Perms.pats; rw [hr0.out])
  have hwl : Hid ((Perms.wordsN k.toNat p.length).length ≤ 1024) := Lib.hid (by rw [Perms.wordsN_len]; exact hpw'.out)
  have hwm : Hid (∀ w ∈ Perms.wordsN k.toNat p.length, w.length = p.length) := Lib.hid fun w hw => (Perms.wordsN_mem.1 hw).1
  obtain ⟨ws, hws⟩ : ∃ ws, ws = Perms.wordsN k.toNat p.length := ⟨_, rfl⟩
  rw [← hws] at hpt hwl hwm oW
  clear hws hpw' hq b2
  obtain ⟨us, hW, hWi, hWr⟩ := oW.parts
  obtain ⟨aw, cw, rfl, lw, _, _⟩ := oW.form
  have hWl := hWr.1
  go_wp2_with fail
  go_loopg [6, 29] ws.length (fun gg b i wr => ∃ (j go n cap : Nat) (is : List Nat), i = .int .i64 j ∧ b = .slice (some ⟨go, 0, none⟩) n cap ∧ Below w.heap.size w wr ∧ w2.heap.size ≤ wr.heap.size ∧ Hid (∀ q, w1.heap.size + 1 ≤ q → q < w2.heap.size → wr.heap[q]? = w2.heap[q]?) ∧
    Own wr w.heap.size 36 (.slice (some ⟨go, 0, none⟩) n cap) (is.map fun i => us.getD i nilV) ∧ Hid (go < w1.heap.size + 1 ∨ w2.heap.size ≤ go) ∧ Hid (is.Pairwise (· < ·)) ∧ Hid (∀ i ∈ is, i < j) ∧ Hid ((is.map fun i => ws.getD i []) = (ws.take j).filter (Perms.isPat g)) ∧ is.length ≤ j ∧
    j + gg ≤ ws.length ∧ ws.length ≤ j + gg)
  case atStart =>
    exact ⟨0, w1.heap.size, 0, 0, [], rfl, rfl, b1.trans (hb12.mono hb1), Nat.le_refl _, Lib.hid (fun _ _ _ => rfl), hout1, Lib.hid (.inl (Nat.lt_succ_self _)), Lib.hid List.Pairwise.nil, Lib.hid (by simp), Lib.hid (by simp), by simp, by omega, by omega⟩
  case round =>
    obtain ⟨j, go, n, cap, is, rfl, rfl, hbw, hs2, hkp, hou, haw, hpw, hil, hie, hisl, hm1, hm2⟩ := hrel
    have hWr' : Rows wr (w1.heap.size + 1) w2.heap.size us ws := hWr.kept fun q h1 h2 _ => hkp.out q h1 h2
    have hW' : Own wr (w1.heap.size + 1) 36 (.slice aw ws.length cw) us := Own.kept hW fun q hq => hkp.out q (Own.lt hW hq).1 (hWi q hq)
    by_cases hj : j < ws.length
    · have i2 : (j : Int) < ws.length := by omega
      obtain ⟨gw, rfl, _, _⟩ := hW'.head (by omega)
      obtain ⟨u, xs, hu, hxs, hxo, hxi⟩ := hWr'.get hj
      have hcu := hW'.cell hu.out
      have hxn := hwm.out xs (List.mem_of_getElem? hxs.out)
      have hxn' := Lib.hid hxn
      have hfit := Lib.hid (Perms.grp_fit (l := xs) hgb'.out (by rw [hr0.out]; exact hxn))
      obtain ⟨au, cu, rfl, lu, _, _⟩ := Own.form hxo
      have hwl' := hwl.out
      go_wp2_with fail
      refine canon_i (hg0.out.below hbw) (OwnInts.at hxo) hfit.out ?_
      intro v3 w3 o3 b3
      go_wp2_with fail
      refine Equal_c o3.at (OwnInts.at (OwnInts.below hxo b3)) ?_
      intro w4 d4
      have b34 : Below wr.heap.size wr w4 := b3.trans (d4.below _)
      have hbw4 : Below w.heap.size w w4 := hbw.trans (b34.mono hbw.size)
      have hou4 := Own.below hou b34
      have hs4 : w2.heap.size ≤ w4.heap.size := Nat.le_trans hs2 b34.size
      have hkp4 : Hid (∀ q, w1.heap.size + 1 ≤ q → q < w2.heap.size → w4.heap[q]? = w2.heap[q]?) := Lib.hid fun q h1 h2 => by
        rw [b34.block q (by omega)]; exact hkp.out q h1 h2
      by_cases hp : Perms.canon g xs = xs
      · have hd : Hid (decide (Perms.canon g xs = xs) = true) := Lib.hid (decide_eq_true hp)
        have hst := Perms.isPat g
        have hie2 : Hid (((is ++ [j]).map fun i => ws.getD i []) = (ws.take (j + 1)).filter (Perms.isPat g)) := Lib.hid (by
          have h := pick_step hie.out hxs.out
          rwa [if_pos (show Perms.isPat g xs = true from decide_eq_true hp)] at h)
        have hus : Hid (((is ++ [j]).map fun i => us.getD i nilV) = (is.map fun i => us.getD i nilV) ++ [.slice au (ints xs).length cu]) := Lib.hid (by
          rw [List.map_append]
          simp [List.getD, hu.out])
        clear hp hst
        rw [hd.out]
        have hbs4 := hbw4.size
        go_wp2_with (at_builtin; refine app_val rfl (.tmp 38) (.tmp 40) rfl rfl (Own.below hou4 (below_alloc w4 _)) rfl (cell_new _ _ _) rfl (by rw [List.length_map]; omega) (by simp; omega) ?_; intro go5 cap5 w5 o5 g5 n5)
        rw [← hus.out] at o5
        have hsz5 := g5.size
        simp at hsz5
        go_roundg (gk - 1)
        case measure => omega
        case rel =>
          refine ⟨j + 1, go5, _, cap5, is ++ [j], by go_num, rfl, (hbw4.alloc hbs4 _).grown g5 (by simp; omega) (fun b hb => by cases hb; exact (Own.lt hou4 rfl).1), by omega, Lib.hid fun q h1 h2 => ?_, o5, Lib.hid ?_, Lib.hid ?_, Lib.hid ?_, hie2, by simp; omega, by omega, by omega⟩
          · rw [g5.block q (by simp; omega) (by have := haw.out; intro e; cases e; omega), (below_alloc w4 _).block q (by omega)]
            exact hkp4.out q h1 h2
          · rcases n5 with rfl | h
            · exact haw.out
            · simp at h; omega
          · rw [List.pairwise_append]
            exact ⟨hpw.out, by simp, fun a ha b hb => by simp at hb; subst hb; exact hil.out a ha⟩
          · intro i hi
            rcases List.mem_append.1 hi with h | h
            · have := hil.out i h; omega
            · simp at h; omega
      · have hd : Hid (decide (Perms.canon g xs = xs) = false) := Lib.hid (decide_eq_false hp)
        have hie2 : Hid ((is.map fun i => ws.getD i []) = (ws.take (j + 1)).filter (Perms.isPat g)) := Lib.hid (by
          have h := pick_step hie.out hxs.out
          rwa [if_neg (by unfold Perms.isPat; rw [decide_eq_false hp]; simp)] at h)
        clear hp
        rw [hd.out]
        go_wp2_with fail
        go_roundg (gk - 1)
        case measure => omega
        case rel => exact ⟨j + 1, go, n, cap, is, by go_num, rfl, hbw4, hs4, hkp4, hou4, haw, hpw, Lib.hid (fun i hi => Nat.lt_succ_of_lt (hil.out i hi)), hie2, by omega, by omega, by omega⟩
    · have hfin := (hWr'.pick hpw.out (fun i hi => by have := hil.out i hi; omega)).mono (B' := w.heap.size) (E' := wr.heap.size) (by omega) hs2
      rw [hie.out, List.take_of_length_le (by omega), ← hpt.out] at hfin
      have h2 := H.out _ wr (by unfold Perms.patsW; rw [if_pos hs.out]; exact hfin.whole hou hou.inBlk) hbw
      rw [hs.out] at h2
      have h3 := Lib.hid h2
      clear h2 hfin
      go_wp2_with fail
      exact h3.out
end Go.Proofs.YtdjdagcgodpgdaaGreat
