/-
  How many images a coloring has; laws.
-/
import Derived.Test.YtblifocccpfmkaaKeep
import Derived.Test.YtblifocccpfmkaaOrbit
import Derived.Test.YtblifocccpfmkaaLawS
set_option linter.unusedVariables false
namespace Go.Proofs.Ytblifocccpfmkaa
open Go.RowKit

theorem Perms.sumLen_rows {n : Nat} : ∀ {g : List (List Int)}, (∀ p ∈ g, p.length ≤ n) → sumLen g ≤ g.length * n
  | [], _ => by simp [sumLen]
  | p :: g, h => by
    have := Perms.sumLen_rows (g := g) (n := n) fun q hq => h q (by simp [hq])
    have h1 := h p (by simp)
    simp only [sumLen, List.length_cons, Nat.succ_mul]
    omega
theorem Perms.keepW_sum (g : List (List Int)) (l : List Int) : (Perms.keepW g l).length + sumLen (Perms.keepW g l) ≤ 4611686018427 := by
  unfold Perms.keepW
  split
  · rename_i h
    obtain ⟨h1, h2, h3⟩ := Perms.fitsB_fit h
    have a := Perms.keepTo_len g l g.length
    rw [Perms.keepTo_all g l (Nat.le_refl _)] at a
    have b := Perms.sumLen_rows (n := 10) (g := Perms.keep g l) fun p hp => by
      have := (h1 p (by unfold Perms.keep at hp; exact (List.mem_filter.1 hp).1)).1
      omega
    omega
  · simp [sumLen]
set_option maxHeartbeats 800000 in
theorem CountImages_i {vg vl : Value} {g : List (List Int)} {l : List Int} {w : World} {Q : Ending → World → Prop} (hg : RowsAt w vg g) (hl : IntsAt w vl l)
    (hQ : ∀ w', Below w.heap.size w w' → Q (.returned (.int .i64 (Perms.imagesN g l))) w') :
    Calls Try.prog 26 #[vg, vl] w Q := by
  have H := Lib.hid hQ; clear hQ
  have hg0 := Lib.hid hg
  have hl0 := Lib.hid hl
  obtain ⟨aa, ca, rfl, la, lca, cca⟩ := hg.form
  obtain ⟨al, cl, rfl, ll, lcl, ccl⟩ := hl.form
  go_enter Try.func26, Try.ntmps26
  go_wp2_with fail
  refine CanonOf_i hg0.out hl0.out ?_
  intro v1 w1 o1 b1
  cases hfb : Perms.fitsB g l with
  | false =>
    have hf : Hid (Perms.imagesN g l = 0) := Lib.hid (by unfold Perms.imagesN; rw [if_neg (by rw [hfb]; simp)])
    go_wp2_with fail
    exact intq' (H.out _ b1) (by rw [hf.out]; rfl)
  | true =>
    have hf2 := Lib.hid hfb
    obtain ⟨d1, d2⟩ := Perms.images_div hfb
    have hf : Hid (Perms.imagesN g l = g.length / (Perms.keep g l).length) := Lib.hid (by unfold Perms.imagesN; rw [if_pos hfb, d2])
    have hfit := Lib.hid (Perms.fitsB_fit hfb)
    have hk1 : 0 < ((Perms.keep g l).length : Int) := by omega
    clear hfb d2 d1
    go_wp2_with fail
    refine keepers_i (hg0.out.below b1) (hl0.out.below b1) hfit.out ?_
    intro v2 w2 o2 b2
    obtain ⟨a2, c2, rfl, l2, _, _⟩ := o2.form
    have hb2 : Below w.heap.size w w2 := b1.trans (b2.mono b1.size)
    go_wp2_with fail
    refine intq' (H.out _ hb2) ?_
    rw [hf.out]
    have q1 : g.length / (Perms.keep g l).length ≤ g.length := Nat.div_le_self _ _
    rw [← Int.natCast_ediv]
    generalize g.length / (Perms.keep g l).length = z at q1 ⊢
    unfold wrap64
    omega
set_option maxHeartbeats 1600000 in
theorem CountImages_s {vg vl : Value} {g : List (List Int)} {l : List Int} {w : World} {Q : Ending → World → Prop} (hg : RowsAt w vg g) (hl : IntsAt w vl l)
    (hQ : ∀ w', Below w.heap.size w w' → Q (.returned (.int .i64 (Perms.imagesN g l))) w') :
    Calls Try.prog 25 #[vg, vl] w Q := by
  have H := Lib.hid hQ; clear hQ
  have hg0 := Lib.hid hg
  have hl0 := Lib.hid hl
  obtain ⟨aa, ca, rfl, la, lca, cca⟩ := hg.form
  obtain ⟨al, cl, rfl, ll, lcl, ccl⟩ := hl.form
  go_enter Try.func25, Try.ntmps25
  go_wp2_with fail
  refine fits_s hg0.out hl0.out ?_
  intro wb hb0
  have hsw : w.heap.size ≤ wb.heap.size := hb0.size
  by_cases hfb0 : Perms.fitsB g l = true
  rotate_left
  · have hfb : Perms.fitsB g l = false := by simpa using hfb0
    have hf : Hid (Perms.imagesN g l = 0) := Lib.hid (by unfold Perms.imagesN; rw [if_neg hfb0])
    clear hfb0
    go_wp2_with fail
    exact intq' (H.out _ hb0) (by rw [hf.out]; rfl)
  obtain ⟨hf1, hf2, hf3⟩ := Perms.fitsB_fit hfb0
  have hf1' := Lib.hid hf1
  have hkw : Hid (Perms.imagesN g l = (Perms.im g l).length) := Lib.hid (by unfold Perms.imagesN; rw [if_pos hfb0])
  clear hf1
  go_wp2_with fail
  go_loopg [5, 19] g.length (fun k b i wr => ∃ j : Nat, i = .int .i64 j ∧ Below w.heap.size w wr ∧ wb.heap.size ≤ wr.heap.size ∧ OwnRows wr wb.heap.size wr.heap.size b (Perms.imTo g l j) ∧ j + k ≤ g.length ∧ g.length ≤ j + k)
  case atStart => exact ⟨0, rfl, hb0.alloc hb0.size _, by simp, OwnRows.tight (own_rows_empty wb), by omega, by omega⟩
  case round =>
    obtain ⟨j, rfl, hbw, hs0, ho, hk1, hk2⟩ := hrel
    by_cases hj : j < g.length
    · have i1 : (j : Int) < g.length := by omega
      obtain ⟨b, off, u, p, rfl, hx, hcw, hip⟩ := hg.cell hj
      have hc := below_cells hbw _ _ hcw
      obtain ⟨fp1, fp2⟩ := hf1'.out p (List.mem_of_getElem? hx.out)
      have fp1' := Lib.hid fp1
      have fp2' := Lib.hid fp2
      clear fp1 fp2
      have es := Lib.hid (Perms.imTo_step (l := l) hx.out)
      have hkl := Lib.hid (Perms.imTo_len g l j)
      obtain ⟨ys, hys⟩ : ∃ ys, ys = Perms.imTo g l j := ⟨_, rfl⟩
      obtain ⟨x, hxe⟩ : ∃ x, x = Perms.act p l := ⟨_, rfl⟩
      have hys' := Lib.hid hys
      have hxe' := Lib.hid hxe
      rw [← hys] at ho
      clear hys hxe
      obtain ⟨ab, cb, rfl, lb, lcb, ccb⟩ := ho.form
      go_wp2_with fail
      refine act_s (hip.below hbw) (hl.below hbw) (by omega) fp1'.out fp2'.out ?_
      intro v2 w2 o2 b2
      have hbw2 : Below w.heap.size w w2 := hbw.trans (b2.mono hbw.size)
      have ho2 := ho.below b2
      rw [← hxe'.out] at o2
      obtain ⟨ao2, ca2, rfl, _, _, _⟩ := Own.form o2
      have hr2 := ho2.at
      have hx2 : IntsAt w2 (Value.slice ao2 (ints x).length ca2) x := OwnInts.at o2
      obtain ⟨wo, hwo⟩ : ∃ wo : World, wo = wr := ⟨_, rfl⟩
      subst hwo
      obtain ⟨gi, hgi⟩ : ∃ g' : Nat, g' = gk := ⟨_, rfl⟩
      subst hgi
      go_wp2_with fail
      go_loopg [9, 28] ys.length (fun k f i wr => ∃ m : Nat, i = .int .i64 m ∧ f = .bool (decide (x ∈ ys.take m)) ∧ Drawn w2 wr ∧ m + k ≤ ys.length ∧ ys.length ≤ m + k)
      case atStart => exact ⟨0, rfl, by simp, Drawn.refl _, by omega, by omega⟩
      case round =>
        obtain ⟨m, rfl, rfl, hd, hm1, hm2⟩ := hrel
        by_cases hm : m < ys.length
        · have i2 : (m : Int) < ys.length := by omega
          obtain ⟨b', off', u2, y, e3, hy, hcy, hiy⟩ := hr2.cell hm
          cases e3
          have hcy' := hd.cells _ _ hcy
          have ht : Hid (ys.take (m + 1) = ys.take m ++ [y]) := Lib.hid (by rw [List.take_add_one, hy.out]; rfl)
          by_cases hin : x ∈ ys.take m
          · have hdt : decide (x ∈ ys.take m) = true := decide_eq_true hin
            have hn : Hid (decide (x ∈ ys.take (m + 1)) = true) := Lib.hid (decide_eq_true (by rw [ht.out]; simp [hin]))
            clear hin
            go_wp2_with fail
            go_roundg (gk - 1)
            case measure => omega
            case rel => exact ⟨m + 1, by go_num, by rw [hn.out], hd, by omega, by omega⟩
          · have hdt : decide (x ∈ ys.take m) = false := decide_eq_false hin
            have hn : Hid (decide (x ∈ ys.take (m + 1)) = decide (x = y)) := Lib.hid (by rw [ht.out, Bool.eq_iff_iff]; simp [hin])
            clear hin
            go_wp2_with fail
            refine l03Same_c (hx2.drawn hd) (hiy.drawn hd) ?_
            intro w3 d3
            go_wp2_with fail
            go_roundg (gk - 1)
            case measure => omega
            case rel => exact ⟨m + 1, by go_num, by rw [hn.out], hd.trans d3, by omega, by omega⟩
        · have hdr : Hid (ys.take m = ys) := Lib.hid (List.take_of_length_le (by omega))
          have hbwr : Below w.heap.size w wr := hbw2.trans (hd.below _)
          have hor := ho2.drawn hd
          have hsr : wb.heap.size ≤ wr.heap.size := Nat.le_trans hs0 (Nat.le_trans b2.size (hd.below 0).size)
          by_cases hin : x ∈ ys
          · have hdt : decide (x ∈ ys.take m) = true := decide_eq_true (by rw [hdr.out]; exact hin)
            have hn : Hid (Perms.imTo g l (j + 1) = ys) := Lib.hid (by rw [es.out, ← hxe'.out, ← hys'.out, if_pos hin])
            clear hin
            go_wp2_with fail
            go_roundg (gi - 1)
            case measure => omega
            case rel => exact ⟨j + 1, by go_num, hbwr, hsr, by rw [hn.out]; exact hor.tight, by omega, by omega⟩
          · have hdt : decide (x ∈ ys.take m) = false := decide_eq_false (by rw [hdr.out]; exact hin)
            have hn : Hid (Perms.imTo g l (j + 1) = ys ++ [x]) := Lib.hid (by rw [es.out, ← hxe'.out, ← hys'.out, if_neg hin])
            have hyl : Hid (ys.length ≤ j) := Lib.hid (by rw [hys'.out]; exact hkl.out)
            clear hin
            have hxr : OwnInts wr wb.heap.size (Value.slice ao2 (ints x).length ca2) x := Own.mono (Own.drawn o2 hd) hs0
            have hfr : ∀ b, (Value.slice ao2 (ints x).length ca2).ownBlock = some b → wo.heap.size ≤ b := fun b hb => (Own.lt o2 hb).1
            go_wp2_with (at_builtin; refine app_rows rfl (.tmp 41) (.tmp 43) rfl rfl (OwnRows.below hor (below_alloc wr _)) rfl (cell_new _ _ _) (OwnInts.below hxr (below_alloc wr _)) hfr (by have := hyl.out; omega) (by simp; omega) ?_; intro v5 w5 o5 t5)
            go_roundg (gi - 1)
            case measure => omega
            case rel => exact ⟨j + 1, by go_num, (hbwr.alloc hbwr.size _).trans (t5.below hsw (by simp; have := hbwr.size; omega)), Nat.le_trans (by simp; omega) t5.size, by rw [hn.out]; exact o5, by omega, by omega⟩
    · have he : Hid (Perms.imTo g l j = Perms.im g l) := Lib.hid (by rw [show j = g.length from by omega]; rfl)
      obtain ⟨ab, cb, rfl, lb, lcb, ccb⟩ := ho.form
      go_wp2_with fail
      refine intq' (H.out _ hbw) ?_
      rw [hkw.out, he.out]
set_option maxHeartbeats 3200000 in
theorem FnExactKeepersOf_l {g : List (List Int)} {l : List Int} {v_g : Value} {v_l : Value} {w : World} {Q : Ending → World → Prop} (h_g : RowsAt w v_g g) (h_l : IntsAt w v_l l) (hQ : ∀ w', Below w.heap.size w w' → Q (.returned (.bool true)) w') :
    Calls Try.prog 7 #[v_g, v_l] w Q := by
  have H := Lib.hid hQ; clear hQ
  have h0_g := h_g
  obtain ⟨ao_g, ca_g, rfl, la_g, lc_g, cc_g⟩ := h0_g.form
  clear h0_g
  have h0_l := h_l
  obtain ⟨ao_l, ca_l, rfl, la_l, lc_l, cc_l⟩ := h0_l.form
  clear h0_l
  rcases Int.lt_or_le 1048576 (l.length : Int) with b_l | b_l
  · go_enter Try.func7, Try.ntmps7
    go_wp2
    exact H.out _ (Below.refl _ _)
  rcases Int.lt_or_le 1048576 ((g.length : Int) + sumLen g) with b_g | b_g
  · have e_g : Hid ((if (g.length : Int) + sumLen g ≤ 1048576 then 1048576 - (g.length : Int) - sumLen g else -1) = -1) := Lib.hid (if_neg (by omega))
    go_enter Try.func7, Try.ntmps7
    go_wp2_with fail
    refine szIntSS_c h_g ?_
    rw [e_g.out]
    go_wp2_with fail
    exact H.out _ (Below.refl _ _)
  have e_g : Hid ((if (g.length : Int) + sumLen g ≤ 1048576 then 1048576 - (g.length : Int) - sumLen g else -1) = 1048576 - (g.length : Int) - sumLen g) := Lib.hid (if_pos b_g)
  have e2_g : 0 ≤ 1048576 - (g.length : Int) - sumLen g := by omega
  go_enter Try.func7, Try.ntmps7
  go_wp2_with fail
  refine szIntSS_c h_g ?_
  rw [e_g.out]
  have bel := Below.refl w.heap.size w
  go_wp2_with fail
  refine toIntSS_c (h_g.below bel) (by omega) ?_; intro vt_g w1 ot_g b1
  have sz_ot_g := bel.size
  replace bel := bel.trans (b1.mono bel.size)
  have le_ot_g := Nat.le_refl w1.heap.size
  go_wp2_with fail
  refine toIntS_c (h_l.below bel) (by omega) ?_; intro vt_l w2 ot_l b2
  have sz_ot_l := bel.size
  have or_ot_g_ot_l := le_ot_g
  replace bel := bel.trans (b2.mono bel.size)
  replace le_ot_g := Nat.le_trans le_ot_g b2.size
  replace ot_g := ot_g.below b2
  have le_ot_l := Nat.le_refl w2.heap.size
  have in_ot_l := Own.inBlk ot_l
  go_wp2_with fail
  refine KeepersOf_s ot_g.at ot_l.at ?_; intro vs0 w3 os0 b3
  have sz_os0 := bel.size
  have or_ot_g_os0 := le_ot_g
  have or_ot_l_os0 := le_ot_l
  replace bel := bel.trans (b3.mono bel.size)
  replace le_ot_g := Nat.le_trans le_ot_g b3.size
  replace ot_g := ot_g.below b3
  replace le_ot_l := Nat.le_trans le_ot_l b3.size
  replace ot_l := ot_l.below b3
  have le_os0 := Nat.le_refl w3.heap.size
  clear le_ot_g sz_ot_g ot_g
  clear le_ot_l sz_ot_l ot_l in_ot_l
  go_wp2_with fail
  refine toIntSS_c (h_g.below bel) (by omega) ?_; intro vx_g w4 ox_g b4
  have sz_ox_g := bel.size
  have or_os0_ox_g := le_os0
  replace bel := bel.trans (b4.mono bel.size)
  replace le_os0 := Nat.le_trans le_os0 b4.size
  replace os0 := os0.below b4
  have le_ox_g := Nat.le_refl w4.heap.size
  go_wp2_with fail
  refine toIntS_c (h_l.below bel) (by omega) ?_; intro vx_l w5 ox_l b5
  have sz_ox_l := bel.size
  have or_os0_ox_l := le_os0
  have or_ox_g_ox_l := le_ox_g
  replace bel := bel.trans (b5.mono bel.size)
  replace le_os0 := Nat.le_trans le_os0 b5.size
  replace os0 := os0.below b5
  replace le_ox_g := Nat.le_trans le_ox_g b5.size
  replace ox_g := ox_g.below b5
  have le_ox_l := Nat.le_refl w5.heap.size
  have in_ox_l := Own.inBlk ox_l
  go_wp2_with fail
  refine KeepersOf_i ox_g.at ox_l.at ?_; intro vg0 w6 og0 b6
  have sz_og0 := bel.size
  have or_os0_og0 := le_os0
  have or_ox_g_og0 := le_ox_g
  have or_ox_l_og0 := le_ox_l
  replace bel := bel.trans (b6.mono bel.size)
  replace le_os0 := Nat.le_trans le_os0 b6.size
  replace os0 := os0.below b6
  replace le_ox_g := Nat.le_trans le_ox_g b6.size
  replace ox_g := ox_g.below b6
  replace le_ox_l := Nat.le_trans le_ox_l b6.size
  replace ox_l := ox_l.below b6
  have le_og0 := Nat.le_refl w6.heap.size
  go_wp2_with fail
  refine eqIntSS_c og0.at os0.at ?_; intro w7 d7
  replace bel := bel.trans (d7.below _)
  replace le_os0 := Nat.le_trans le_os0 (d7.below 0).size
  replace os0 := os0.drawn d7
  replace le_ox_g := Nat.le_trans le_ox_g (d7.below 0).size
  replace ox_g := ox_g.drawn d7
  replace le_ox_l := Nat.le_trans le_ox_l (d7.below 0).size
  replace ox_l := ox_l.drawn d7
  replace le_og0 := Nat.le_trans le_og0 (d7.below 0).size
  replace og0 := og0.drawn d7
  go_wp2_with fail
  refine toIntSS_c (h_g.below bel) (by omega) ?_; intro vu_g w8 ou_g b8
  have sz_ou_g := bel.size
  have or_os0_ou_g := le_os0
  have or_ox_g_ou_g := le_ox_g
  have or_ox_l_ou_g := le_ox_l
  have or_og0_ou_g := le_og0
  replace bel := bel.trans (b8.mono bel.size)
  replace le_os0 := Nat.le_trans le_os0 b8.size
  replace os0 := os0.below b8
  replace le_ox_g := Nat.le_trans le_ox_g b8.size
  replace ox_g := ox_g.below b8
  replace le_ox_l := Nat.le_trans le_ox_l b8.size
  replace ox_l := ox_l.below b8
  replace le_og0 := Nat.le_trans le_og0 b8.size
  replace og0 := og0.below b8
  have le_ou_g := Nat.le_refl w8.heap.size
  go_wp2_with fail
  refine eqIntSS_c ox_g.at ou_g.at ?_; intro w9 d9
  replace bel := bel.trans (d9.below _)
  replace le_os0 := Nat.le_trans le_os0 (d9.below 0).size
  replace os0 := os0.drawn d9
  replace le_ox_g := Nat.le_trans le_ox_g (d9.below 0).size
  replace ox_g := ox_g.drawn d9
  replace le_ox_l := Nat.le_trans le_ox_l (d9.below 0).size
  replace ox_l := ox_l.drawn d9
  replace le_og0 := Nat.le_trans le_og0 (d9.below 0).size
  replace og0 := og0.drawn d9
  replace le_ou_g := Nat.le_trans le_ou_g (d9.below 0).size
  replace ou_g := ou_g.drawn d9
  clear le_ou_g sz_ou_g ou_g
  go_wp2_with fail
  refine toIntS_c (h_l.below bel) (by omega) ?_; intro vu_l w10 ou_l b10
  have sz_ou_l := bel.size
  have or_os0_ou_l := le_os0
  have or_ox_g_ou_l := le_ox_g
  have or_ox_l_ou_l := le_ox_l
  have or_og0_ou_l := le_og0
  replace bel := bel.trans (b10.mono bel.size)
  replace le_os0 := Nat.le_trans le_os0 b10.size
  replace os0 := os0.below b10
  replace le_ox_g := Nat.le_trans le_ox_g b10.size
  replace ox_g := ox_g.below b10
  replace le_ox_l := Nat.le_trans le_ox_l b10.size
  replace ox_l := ox_l.below b10
  replace le_og0 := Nat.le_trans le_og0 b10.size
  replace og0 := og0.below b10
  have le_ou_l := Nat.le_refl w10.heap.size
  have in_ou_l := Own.inBlk ou_l
  go_wp2_with fail
  refine eqIntS_c ox_l.at ou_l.at ?_; intro w11 d11
  replace bel := bel.trans (d11.below _)
  replace le_os0 := Nat.le_trans le_os0 (d11.below 0).size
  replace os0 := os0.drawn d11
  replace le_ox_g := Nat.le_trans le_ox_g (d11.below 0).size
  replace ox_g := ox_g.drawn d11
  replace le_ox_l := Nat.le_trans le_ox_l (d11.below 0).size
  replace ox_l := ox_l.drawn d11
  replace le_og0 := Nat.le_trans le_og0 (d11.below 0).size
  replace og0 := og0.drawn d11
  replace le_ou_l := Nat.le_trans le_ou_l (d11.below 0).size
  replace ou_l := ou_l.drawn d11
  clear le_ou_l sz_ou_l ou_l in_ou_l
  have rb := Perms.keepW_sum g l
  go_wp2_with fail
  refine markIntSS_c ox_g (by omega) (by omega) (by omega) ?_; intro w12 m12 g12
  replace bel := bel.trans (g12.below sz_ox_g bel.size)
  replace le_os0 := Nat.le_trans le_os0 g12.size
  replace os0 := os0.touch g12 (.inl or_os0_ox_g)
  replace le_ox_g := Nat.le_trans le_ox_g g12.size
  replace ox_g := m12
  replace le_ox_l := Nat.le_trans le_ox_l g12.size
  replace ox_l := ox_l.touch in_ox_l g12 (.inr or_ox_g_ox_l)
  replace le_og0 := Nat.le_trans le_og0 g12.size
  replace og0 := og0.touch g12 (.inr or_ox_g_og0)
  go_wp2_with fail
  refine markIntS_c ox_l (by omega) (by omega) (by omega) ?_; intro w13 m13 g13
  replace g13 := Touch.of_grown g13 fun k hk => ⟨(ox_l.lt hk).1, in_ox_l k hk⟩
  replace bel := bel.trans (g13.below sz_ox_l bel.size)
  replace le_os0 := Nat.le_trans le_os0 g13.size
  replace os0 := os0.touch g13 (.inl or_os0_ox_l)
  replace le_ox_g := Nat.le_trans le_ox_g g13.size
  replace ox_g := ox_g.touch g13 (.inl or_ox_g_ox_l)
  replace le_ox_l := Nat.le_trans le_ox_l g13.size
  replace ox_l := m13
  replace le_og0 := Nat.le_trans le_og0 g13.size
  replace og0 := og0.touch g13 (.inr or_ox_l_og0)
  go_wp2_with fail
  refine eqIntSS_c og0.at os0.at ?_; intro w14 d14
  replace bel := bel.trans (d14.below _)
  replace le_os0 := Nat.le_trans le_os0 (d14.below 0).size
  replace os0 := os0.drawn d14
  replace le_ox_g := Nat.le_trans le_ox_g (d14.below 0).size
  replace ox_g := ox_g.drawn d14
  replace le_ox_l := Nat.le_trans le_ox_l (d14.below 0).size
  replace ox_l := ox_l.drawn d14
  replace le_og0 := Nat.le_trans le_og0 (d14.below 0).size
  replace og0 := og0.drawn d14
  go_wp2_with fail
  refine markIntSS_c og0 (by omega) (by omega) (by omega) ?_; intro w15 m15 g15
  replace bel := bel.trans (g15.below sz_og0 bel.size)
  replace le_os0 := Nat.le_trans le_os0 g15.size
  replace os0 := os0.touch g15 (.inl or_os0_og0)
  replace le_ox_g := Nat.le_trans le_ox_g g15.size
  replace ox_g := ox_g.touch g15 (.inl or_ox_g_og0)
  replace le_ox_l := Nat.le_trans le_ox_l g15.size
  replace ox_l := ox_l.touch in_ox_l g15 (.inl or_ox_l_og0)
  replace le_og0 := Nat.le_trans le_og0 g15.size
  replace og0 := m15
  go_wp2_with fail
  refine heldIntSS_c og0.at (by omega) (by omega) (by omega) ?_
  clear le_ox_g sz_ox_g ox_g
  clear le_ox_l sz_ox_l ox_l in_ox_l
  go_wp2_with fail
  refine toIntSS_c (h_g.below bel) (by omega) ?_; intro vy_g w16 oy_g b16
  have sz_oy_g := bel.size
  have or_os0_oy_g := le_os0
  have or_og0_oy_g := le_og0
  replace bel := bel.trans (b16.mono bel.size)
  replace le_os0 := Nat.le_trans le_os0 b16.size
  replace os0 := os0.below b16
  replace le_og0 := Nat.le_trans le_og0 b16.size
  replace og0 := og0.below b16
  have le_oy_g := Nat.le_refl w16.heap.size
  go_wp2_with fail
  refine toIntS_c (h_l.below bel) (by omega) ?_; intro vy_l w17 oy_l b17
  have sz_oy_l := bel.size
  have or_os0_oy_l := le_os0
  have or_og0_oy_l := le_og0
  have or_oy_g_oy_l := le_oy_g
  replace bel := bel.trans (b17.mono bel.size)
  replace le_os0 := Nat.le_trans le_os0 b17.size
  replace os0 := os0.below b17
  replace le_og0 := Nat.le_trans le_og0 b17.size
  replace og0 := og0.below b17
  replace le_oy_g := Nat.le_trans le_oy_g b17.size
  replace oy_g := oy_g.below b17
  have le_oy_l := Nat.le_refl w17.heap.size
  have in_oy_l := Own.inBlk oy_l
  go_wp2_with fail
  refine KeepersOf_i oy_g.at oy_l.at ?_; intro vh0 w18 oh0 b18
  have sz_oh0 := bel.size
  have or_os0_oh0 := le_os0
  have or_og0_oh0 := le_og0
  have or_oy_g_oh0 := le_oy_g
  have or_oy_l_oh0 := le_oy_l
  replace bel := bel.trans (b18.mono bel.size)
  replace le_os0 := Nat.le_trans le_os0 b18.size
  replace os0 := os0.below b18
  replace le_og0 := Nat.le_trans le_og0 b18.size
  replace og0 := og0.below b18
  replace le_oy_g := Nat.le_trans le_oy_g b18.size
  replace oy_g := oy_g.below b18
  replace le_oy_l := Nat.le_trans le_oy_l b18.size
  replace oy_l := oy_l.below b18
  have le_oh0 := Nat.le_refl w18.heap.size
  clear le_oy_g sz_oy_g oy_g
  clear le_oy_l sz_oy_l oy_l in_oy_l
  go_wp2_with fail
  refine eqIntSS_c oh0.at os0.at ?_; intro w19 d19
  replace bel := bel.trans (d19.below _)
  replace le_os0 := Nat.le_trans le_os0 (d19.below 0).size
  replace os0 := os0.drawn d19
  replace le_og0 := Nat.le_trans le_og0 (d19.below 0).size
  replace og0 := og0.drawn d19
  replace le_oh0 := Nat.le_trans le_oh0 (d19.below 0).size
  replace oh0 := oh0.drawn d19
  go_wp2_with fail
  refine heldIntSS_c og0.at (by omega) (by omega) (by omega) ?_
  go_wp2
  exact H.out _ bel
set_option maxHeartbeats 3200000 in
theorem FnExactCountImages_l {g : List (List Int)} {l : List Int} {v_g : Value} {v_l : Value} {w : World} {Q : Ending → World → Prop} (h_g : RowsAt w v_g g) (h_l : IntsAt w v_l l) (hQ : ∀ w', Below w.heap.size w w' → Q (.returned (.bool true)) w') :
    Calls Try.prog 6 #[v_g, v_l] w Q := by
  have H := Lib.hid hQ; clear hQ
  have h0_g := h_g
  obtain ⟨ao_g, ca_g, rfl, la_g, lc_g, cc_g⟩ := h0_g.form
  clear h0_g
  have h0_l := h_l
  obtain ⟨ao_l, ca_l, rfl, la_l, lc_l, cc_l⟩ := h0_l.form
  clear h0_l
  rcases Int.lt_or_le 1048576 (l.length : Int) with b_l | b_l
  · go_enter Try.func6, Try.ntmps6
    go_wp2
    exact H.out _ (Below.refl _ _)
  rcases Int.lt_or_le 1048576 ((g.length : Int) + sumLen g) with b_g | b_g
  · have e_g : Hid ((if (g.length : Int) + sumLen g ≤ 1048576 then 1048576 - (g.length : Int) - sumLen g else -1) = -1) := Lib.hid (if_neg (by omega))
    go_enter Try.func6, Try.ntmps6
    go_wp2_with fail
    refine szIntSS_c h_g ?_
    rw [e_g.out]
    go_wp2_with fail
    exact H.out _ (Below.refl _ _)
  have e_g : Hid ((if (g.length : Int) + sumLen g ≤ 1048576 then 1048576 - (g.length : Int) - sumLen g else -1) = 1048576 - (g.length : Int) - sumLen g) := Lib.hid (if_pos b_g)
  have e2_g : 0 ≤ 1048576 - (g.length : Int) - sumLen g := by omega
  go_enter Try.func6, Try.ntmps6
  go_wp2_with fail
  refine szIntSS_c h_g ?_
  rw [e_g.out]
  have bel := Below.refl w.heap.size w
  go_wp2_with fail
  refine toIntSS_c (h_g.below bel) (by omega) ?_; intro vt_g w1 ot_g b1
  have sz_ot_g := bel.size
  replace bel := bel.trans (b1.mono bel.size)
  have le_ot_g := Nat.le_refl w1.heap.size
  go_wp2_with fail
  refine toIntS_c (h_l.below bel) (by omega) ?_; intro vt_l w2 ot_l b2
  have sz_ot_l := bel.size
  have or_ot_g_ot_l := le_ot_g
  replace bel := bel.trans (b2.mono bel.size)
  replace le_ot_g := Nat.le_trans le_ot_g b2.size
  replace ot_g := ot_g.below b2
  have le_ot_l := Nat.le_refl w2.heap.size
  have in_ot_l := Own.inBlk ot_l
  go_wp2_with fail
  refine CountImages_s ot_g.at ot_l.at ?_; intro w3 b3
  replace bel := bel.trans (b3.mono bel.size)
  replace le_ot_g := Nat.le_trans le_ot_g b3.size
  replace ot_g := ot_g.below b3
  replace le_ot_l := Nat.le_trans le_ot_l b3.size
  replace ot_l := ot_l.below b3
  clear le_ot_g sz_ot_g ot_g
  clear le_ot_l sz_ot_l ot_l in_ot_l
  go_wp2_with fail
  refine toIntSS_c (h_g.below bel) (by omega) ?_; intro vx_g w4 ox_g b4
  have sz_ox_g := bel.size
  replace bel := bel.trans (b4.mono bel.size)
  have le_ox_g := Nat.le_refl w4.heap.size
  go_wp2_with fail
  refine toIntS_c (h_l.below bel) (by omega) ?_; intro vx_l w5 ox_l b5
  have sz_ox_l := bel.size
  have or_ox_g_ox_l := le_ox_g
  replace bel := bel.trans (b5.mono bel.size)
  replace le_ox_g := Nat.le_trans le_ox_g b5.size
  replace ox_g := ox_g.below b5
  have le_ox_l := Nat.le_refl w5.heap.size
  have in_ox_l := Own.inBlk ox_l
  go_wp2_with fail
  refine CountImages_i ox_g.at ox_l.at ?_; intro w6 b6
  replace bel := bel.trans (b6.mono bel.size)
  replace le_ox_g := Nat.le_trans le_ox_g b6.size
  replace ox_g := ox_g.below b6
  replace le_ox_l := Nat.le_trans le_ox_l b6.size
  replace ox_l := ox_l.below b6
  go_wp2_with fail
  refine toIntSS_c (h_g.below bel) (by omega) ?_; intro vu_g w7 ou_g b7
  have sz_ou_g := bel.size
  have or_ox_g_ou_g := le_ox_g
  have or_ox_l_ou_g := le_ox_l
  replace bel := bel.trans (b7.mono bel.size)
  replace le_ox_g := Nat.le_trans le_ox_g b7.size
  replace ox_g := ox_g.below b7
  replace le_ox_l := Nat.le_trans le_ox_l b7.size
  replace ox_l := ox_l.below b7
  have le_ou_g := Nat.le_refl w7.heap.size
  go_wp2_with fail
  refine eqIntSS_c ox_g.at ou_g.at ?_; intro w8 d8
  replace bel := bel.trans (d8.below _)
  replace le_ox_g := Nat.le_trans le_ox_g (d8.below 0).size
  replace ox_g := ox_g.drawn d8
  replace le_ox_l := Nat.le_trans le_ox_l (d8.below 0).size
  replace ox_l := ox_l.drawn d8
  replace le_ou_g := Nat.le_trans le_ou_g (d8.below 0).size
  replace ou_g := ou_g.drawn d8
  clear le_ou_g sz_ou_g ou_g
  go_wp2_with fail
  refine toIntS_c (h_l.below bel) (by omega) ?_; intro vu_l w9 ou_l b9
  have sz_ou_l := bel.size
  have or_ox_g_ou_l := le_ox_g
  have or_ox_l_ou_l := le_ox_l
  replace bel := bel.trans (b9.mono bel.size)
  replace le_ox_g := Nat.le_trans le_ox_g b9.size
  replace ox_g := ox_g.below b9
  replace le_ox_l := Nat.le_trans le_ox_l b9.size
  replace ox_l := ox_l.below b9
  have le_ou_l := Nat.le_refl w9.heap.size
  have in_ou_l := Own.inBlk ou_l
  go_wp2_with fail
  refine eqIntS_c ox_l.at ou_l.at ?_; intro w10 d10
  replace bel := bel.trans (d10.below _)
  replace le_ox_g := Nat.le_trans le_ox_g (d10.below 0).size
  replace ox_g := ox_g.drawn d10
  replace le_ox_l := Nat.le_trans le_ox_l (d10.below 0).size
  replace ox_l := ox_l.drawn d10
  replace le_ou_l := Nat.le_trans le_ou_l (d10.below 0).size
  replace ou_l := ou_l.drawn d10
  clear le_ou_l sz_ou_l ou_l in_ou_l
  go_wp2
  exact H.out _ bel
end Go.Proofs.Ytblifocccpfmkaa
