/-
  Composing permutations, carrying colorings, finding a row.
-/
import Derived.Test.YtdjdagcgodpgdaaGreatPerm
set_option linter.unusedVariables false
namespace Go.Proofs.YtdjdagcgodpgdaaGreat
open Go.RowKit

set_option maxHeartbeats 800000 in
theorem compose_i {va vb : Value} {p q : List Int} {w : World} {Q : Ending → World → Prop} (ha : IntsAt w va p) (hb : IntsAt w vb q) (hl : p.length ≤ 1048576) (hq : ∀ x ∈ p, 0 ≤ x ∧ x < q.length)
    (hQ : ∀ v w', OwnInts w' w.heap.size v (Perms.comp p q) → Below w.heap.size w w' → Q (.returned v) w') :
    Calls Tryz.prog 69 #[va, vb] w Q := by
  have H := Lib.hid hQ; clear hQ
  have hq' := Lib.hid hq
  clear hq
  obtain ⟨aa, ca, rfl, la, lca, cca⟩ := ha.form
  obtain ⟨ab, cb, rfl, lb, lcb, ccb⟩ := hb.form
  go_enter Tryz.func69, Tryz.ntmps69
  go_wp2_with (at_make; refine mk_ints rfl (.tmp 9) (.tmp 9) rfl rfl rfl p.length rfl (by omega) ?_; intro w1 ho1 hb1 hs1)
  go_loopg [13] p.length (fun k i wr => ∃ j : Nat, i = .int .i64 j ∧ OwnInts wr w.heap.size (.slice (some ⟨w.heap.size, 0, none⟩) p.length p.length) ((Perms.comp p q).take j ++ List.replicate (p.length - j) 0) ∧ Below w.heap.size w wr ∧ j + k ≤ p.length ∧ p.length ≤ j + k)
  case atStart => exact ⟨0, rfl, by simpa using ho1, hb1, by omega, by omega⟩
  case round =>
    obtain ⟨j, rfl, ho, hbw, hk1, hk2⟩ := hrel
    by_cases hj : j < p.length
    · obtain ⟨ba, oa, x, rfl, hx, hcx⟩ := ha.cell hj
      have hcx' := below_cells hbw _ _ hcx
      have hxr := hq'.out x (List.mem_of_getElem? hx.out)
      obtain ⟨hx0, hx1⟩ := hxr
      obtain ⟨bb, ob, y, rfl, hy, hcy⟩ := hb.cell (k := x.toNat) (by omega)
      have hcy' := below_cells hbw _ _ hcy
      have i1 : (j : Int) < p.length := by omega
      have hfr := Own.frozen ho j
      obtain ⟨x0, _, hc0⟩ := OwnInts.cell ho (k := j) (by simp [Perms.comp_len]; omega)
      have es : Hid ((Perms.comp p q)[j]? = some y) := Lib.hid (Perms.comp_get hx.out hx0 hy.out)
      go_wp2
      go_roundg (gk - 1)
      case measure => omega
      case rel =>
        have ho' := OwnInts.set ho j y
        rw [fill_step hj es.out] at ho'
        exact ⟨j + 1, by go_num, ho', hbw.setCell (Nat.le_refl _) _, by omega, by omega⟩
    · go_wp2
      refine H.out _ _ ?_ hbw
      rw [fill_end (by omega) (by rw [Perms.comp_len]; omega)] at ho
      exact ho
set_option maxHeartbeats 800000 in
theorem compose_s {va vb : Value} {p q : List Int} {w : World} {Q : Ending → World → Prop} (ha : IntsAt w va p) (hb : IntsAt w vb q) (hl : p.length ≤ 1048576) (hq : ∀ x ∈ p, 0 ≤ x ∧ x < q.length)
    (hQ : ∀ v w', OwnInts w' w.heap.size v (Perms.comp p q) → Below w.heap.size w w' → Q (.returned v) w') :
    Calls Tryz.prog 57 #[va, vb] w Q := by
  have H := Lib.hid hQ; clear hQ
  have hq' := Lib.hid hq
  clear hq
  obtain ⟨aa, ca, rfl, la, lca, cca⟩ := ha.form
  obtain ⟨ab, cb, rfl, lb, lcb, ccb⟩ := hb.form
  go_enter Tryz.func57, Tryz.ntmps57
  go_wp2
  go_loopg [5, 11] p.length (fun k o i wr => ∃ j : Nat, i = .int .i64 j ∧ OwnInts wr w.heap.size o ((Perms.comp p q).take j) ∧ Below w.heap.size w wr ∧ j + k ≤ p.length ∧ p.length ≤ j + k)
  case atStart => exact ⟨0, rfl, by simpa using own_empty w, below_alloc w _, by omega, by omega⟩
  case round =>
    obtain ⟨j, rfl, ho, hbw, hk1, hk2⟩ := hrel
    by_cases hj : j < p.length
    · obtain ⟨ba, oa, x, rfl, hx, hcx⟩ := ha.cell hj
      have hcx' := below_cells hbw _ _ hcx
      have hxr := hq'.out x (List.mem_of_getElem? hx.out)
      obtain ⟨hx0, hx1⟩ := hxr
      obtain ⟨bb, ob, y, rfl, hy, hcy⟩ := hb.cell (k := x.toNat) (by omega)
      have hcy' := below_cells hbw _ _ hcy
      have i1 : (j : Int) < p.length := by omega
      have es : Hid ((Perms.comp p q)[j]? = some y) := Lib.hid (Perms.comp_get hx.out hx0 hy.out)
      go_wp2_with (at_builtin; refine app_int rfl (.tmp 15) (.tmp 20) rfl rfl (OwnInts.below ho (below_alloc wr _)) rfl (cell_new _ _ _) (by simp; omega) (by have := hbw.size; simp; omega) ?_; intro v2 w2 o2 g2)
      go_roundg (gk - 1)
      case measure => omega
      case rel =>
        rw [show (Perms.comp p q).take j ++ [y] = (Perms.comp p q).take (j + 1) from by rw [List.take_add_one, es.out]; rfl] at o2
        exact ⟨j + 1, by go_num, o2, (hbw.alloc hbw.size _).grown g2 (by have := hbw.size; simp; omega) (fun b hb => (OwnInts.lt ho hb).1), by omega, by omega⟩
    · go_wp2
      refine H.out _ _ ?_ hbw
      rw [List.take_of_length_le (by rw [Perms.comp_len]; omega)] at ho
      exact ho
set_option maxHeartbeats 800000 in
theorem act_i {va vb : Value} {p l : List Int} {w : World} {Q : Ending → World → Prop} (ha : IntsAt w va p) (hb : IntsAt w vb l) (hl : l.length ≤ 1048576) (hpl : p.length = l.length) (hq : ∀ x ∈ p, 0 ≤ x ∧ x < l.length)
    (hQ : ∀ v w', OwnInts w' w.heap.size v (Perms.act p l) → Below w.heap.size w w' → Q (.returned v) w') :
    Calls Tryz.prog 76 #[va, vb] w Q := by
  have H := Lib.hid hQ; clear hQ
  have hq' := Lib.hid hq
  have hpl' := Lib.hid hpl
  clear hq hpl
  obtain ⟨aa, ca, rfl, la, lca, cca⟩ := ha.form
  obtain ⟨ab, cb, rfl, lb, lcb, ccb⟩ := hb.form
  go_enter Tryz.func76, Tryz.ntmps76
  go_wp2_with (at_make; refine mk_ints rfl (.tmp 9) (.tmp 9) rfl rfl rfl l.length rfl (by omega) ?_; intro w1 ho1 hb1 hs1)
  go_loopg [13] l.length (fun k i wr => ∃ j : Nat, i = .int .i64 j ∧ OwnInts wr w.heap.size (.slice (some ⟨w.heap.size, 0, none⟩) l.length l.length) (Perms.actTo p l j) ∧ Below w.heap.size w wr ∧ j + k ≤ l.length ∧ l.length ≤ j + k)
  case atStart => exact ⟨0, rfl, ho1, hb1, by omega, by omega⟩
  case round =>
    obtain ⟨j, rfl, ho, hbw, hk1, hk2⟩ := hrel
    by_cases hj : j < l.length
    · obtain ⟨bb, ob, y, rfl, hy, hcy⟩ := hb.cell hj
      have hcy' := below_cells hbw _ _ hcy
      obtain ⟨ba, oa, x, rfl, hx, hcx⟩ := ha.cell (k := j) (by have := hpl'.out; omega)
      have hcx' := below_cells hbw _ _ hcx
      have hxr := hq'.out x (List.mem_of_getElem? hx.out)
      obtain ⟨hx0, hx1⟩ := hxr
      have i1 : (j : Int) < l.length := by omega
      have i2 : (j : Int) < p.length := by have := hpl'.out; omega
      have hfr := Own.frozen ho x.toNat
      obtain ⟨x0, _, hc0⟩ := OwnInts.cell ho (k := x.toNat) (by rw [Perms.actTo_len]; omega)
      have es : Hid (Perms.actTo p l (j + 1) = (Perms.actTo p l j).set x.toNat y) := Lib.hid (by simp only [Perms.actTo]; rw [hx.out, hy.out])
      go_wp2
      go_roundg (gk - 1)
      case measure => omega
      case rel =>
        have ho' := OwnInts.set ho x.toNat y
        rw [← es.out] at ho'
        exact ⟨j + 1, by go_num, ho', hbw.setCell (Nat.le_refl _) _, by omega, by omega⟩
    · obtain rfl : j = l.length := by omega
      go_wp2
      exact H.out _ _ ho hbw
set_option maxHeartbeats 800000 in
theorem act_s {va vb : Value} {p l : List Int} {w : World} {Q : Ending → World → Prop} (ha : IntsAt w va p) (hb : IntsAt w vb l) (hl : l.length ≤ 1048576) (hpl : p.length = l.length) (hq : ∀ x ∈ p, 0 ≤ x ∧ x < l.length)
    (hQ : ∀ v w', OwnInts w' w.heap.size v (Perms.act p l) → Below w.heap.size w w' → Q (.returned v) w') :
    Calls Tryz.prog 84 #[va, vb] w Q := by
  have H := Lib.hid hQ; clear hQ
  have hq' := Lib.hid hq
  have hpl' := Lib.hid hpl
  clear hq hpl
  obtain ⟨aa, ca, rfl, la, lca, cca⟩ := ha.form
  obtain ⟨ab, cb, rfl, lb, lcb, ccb⟩ := hb.form
  go_enter Tryz.func84, Tryz.ntmps84
  go_wp2_with (at_make; refine mk_ints rfl (.tmp 9) (.tmp 9) rfl rfl rfl l.length rfl (by omega) ?_; intro w1 ho1 hb1 hs1)
  go_loopg [13] l.length (fun k i wr => ∃ j : Nat, i = .int .i64 j ∧ OwnInts wr w.heap.size (.slice (some ⟨w.heap.size, 0, none⟩) l.length l.length) (Perms.actTo p l j) ∧ Below w.heap.size w wr ∧ j + k ≤ l.length ∧ l.length ≤ j + k)
  case atStart => exact ⟨0, rfl, ho1, hb1, by omega, by omega⟩
  case round =>
    obtain ⟨j, rfl, ho, hbw, hk1, hk2⟩ := hrel
    by_cases hj : j < l.length
    · obtain ⟨bb, ob, y, rfl, hy, hcy⟩ := hb.cell hj
      have hcy' := below_cells hbw _ _ hcy
      obtain ⟨ba, oa, x, rfl, hx, hcx⟩ := ha.cell (k := j) (by have := hpl'.out; omega)
      have hcx' := below_cells hbw _ _ hcx
      have hxr := hq'.out x (List.mem_of_getElem? hx.out)
      obtain ⟨hx0, hx1⟩ := hxr
      have i1 : (j : Int) < l.length := by omega
      have i2 : (j : Int) < p.length := by have := hpl'.out; omega
      have hfr := Own.frozen ho x.toNat
      obtain ⟨x0, _, hc0⟩ := OwnInts.cell ho (k := x.toNat) (by rw [Perms.actTo_len]; omega)
      have es : Hid (Perms.actTo p l (j + 1) = (Perms.actTo p l j).set x.toNat y) := Lib.hid (by simp only [Perms.actTo]; rw [hx.out, hy.out])
      go_wp2
      go_roundg (gk - 1)
      case measure => omega
      case rel =>
        have ho' := OwnInts.set ho x.toNat y
        rw [← es.out] at ho'
        exact ⟨j + 1, by go_num, ho', hbw.setCell (Nat.le_refl _) _, by omega, by omega⟩
    · obtain rfl : j = l.length := by omega
      go_wp2
      exact H.out _ _ ho hbw
set_option maxHeartbeats 800000 in
theorem find_s {vg vp : Value} {g : List (List Int)} {p : List Int} {w : World} {Q : Ending → World → Prop} (hg : RowsAt w vg g) (hp : IntsAt w vp p) (hs : Perms.Asc g) (hn : g.length ≤ 1048576) (hl : ∀ x ∈ g, x.length = p.length)
    (hQ : ∀ w', Drawn w w' → Q (.returned (.int .i64 (Perms.idx g p))) w') :
    Calls Tryz.prog 58 #[vg, vp] w Q := by
  have H := Lib.hid hQ; clear hQ
  have hl' := Lib.hid hl
  have hs' := Lib.hid hs
  clear hl hs
  obtain ⟨aa, ca, rfl, la, lca, cca⟩ := hg.form
  go_enter Tryz.func58, Tryz.ntmps58
  go_wp2_with fail
  go_loopg [5, 6] g.length (fun k a b wr => Drawn w wr ∧ ∃ i j : Nat, a = .int .i64 i ∧ b = .int .i64 j ∧ i ≤ j ∧ j ≤ g.length ∧ j ≤ i + k ∧ Hid (Perms.Cut g p i j))
  case atStart => exact ⟨Drawn.refl w, 0, g.length, rfl, rfl, by omega, by omega, by omega, Lib.hid (Perms.Cut.start g p)⟩
  case round =>
    obtain ⟨hw, i, j, rfl, rfl, hij, hjn, hk, hC⟩ := hrel
    have hgw := hg.drawn hw
    have hpw := hp.drawn hw
    by_cases hlt : i < j
    · obtain ⟨m, hm⟩ : ∃ m : Nat, m = (i + j) / 2 := ⟨_, rfl⟩
      have hm1 : i ≤ m := by omega
      have hm2 : m < j := by omega
      have hmI : ((i : Int) + j) / 2 = m := by omega
      clear hm
      obtain ⟨b, off, u, xs, rfl, hx, hc, hi⟩ := hgw.cell (k := m) (by omega)
      have i1 : (m : Int) < g.length := by omega
      have hxl := hl'.out xs (List.mem_of_getElem? hx.out)
      have hxl' := Lib.hid hxl
      clear hxl
      cases hc0 : Words.less xs p with
      | true =>
        have hC' : Hid (Perms.Cut g p (m + 1) j) := Lib.hid (hC.out.up hs'.out hx.out (by rw [← Words.less_neg hxl'.out]; exact hc0))
        go_wp2_with (go_at_call 45; refine l03Less_c hi hpw hxl'.out ?_; rw [hc0])
        go_roundg (gk - 1)
        case measure => omega
        case rel => exact ⟨hw, m + 1, j, by go_num, rfl, by omega, by omega, by omega, hC'⟩
      | false =>
        have hC' : Hid (Perms.Cut g p i m) := Lib.hid (hC.out.down hs'.out hx.out (by rw [← Words.less_neg hxl'.out, hc0]; simp))
        go_wp2_with (go_at_call 45; refine l03Less_c hi hpw hxl'.out ?_; rw [hc0])
        go_roundg (gk - 1)
        case measure => omega
        case rel => exact ⟨hw, i, m, rfl, by go_num, by omega, by omega, by omega, hC'⟩
    · obtain rfl : i = j := by omega
      by_cases hin : i < g.length
      · obtain ⟨b, off, u, xs, rfl, hx, hc, hi⟩ := hgw.cell (k := i) hin
        have i1 : (i : Int) < g.length := by omega
        by_cases he : xs = p
        · have ef : Hid (Perms.idx g p = i) := Lib.hid (hC.out.found hs'.out (by rw [hx.out, he]))
          have hd : decide (xs = p) = true := decide_eq_true he
          clear he
          go_wp2_with (go_at_call 46; refine l03Same_c hi hpw ?_; intro w2 d2)
          exact intq' (H.out _ (hw.trans d2)) ef.out
        · have ef : Hid (Perms.idx g p = -1) := Lib.hid (hC.out.missed hs'.out (fun y hy => by rw [hx.out] at hy; cases hy; exact he))
          have hd : decide (xs = p) = false := decide_eq_false he
          clear he
          go_wp2_with (go_at_call 46; refine l03Same_c hi hpw ?_; intro w2 d2)
          exact intq' (H.out _ (hw.trans d2)) ef.out
      · have ef : Hid (Perms.idx g p = -1) := Lib.hid (hC.out.missed hs'.out (fun y hy => by rw [List.getElem?_eq_none (by omega)] at hy; cases hy))
        go_wp2_with fail
        exact intq' (H.out _ hw) ef.out
end Go.Proofs.YtdjdagcgodpgdaaGreat
