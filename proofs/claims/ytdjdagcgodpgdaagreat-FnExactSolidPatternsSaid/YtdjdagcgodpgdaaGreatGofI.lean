/-
  The group that some permutations make, as the program makes it.
-/
import Derived.Test.YtdjdagcgodpgdaaGreatGof0
import Derived.Test.YtdjdagcgodpgdaaGreatVals
import Derived.Test.YtdjdagcgodpgdaaGreatDel
import Derived.Test.YtdjdagcgodpgdaaGreatIdp
import Derived.Test.YtdjdagcgodpgdaaGreatGrp
set_option linter.unusedVariables false
namespace Go.Proofs.YtdjdagcgodpgdaaGreat
open Go.RowKit

theorem containsIf_c {f : Nat} {lb : Array Value} {P : List Int → Bool} (eg : ∀ args w, (callFunc f args).run Tryz.prog w = .ok (.enter f args) w) {va : Value} {xss : List (List Int)} {w : World} {Q : Ending → World → Prop} (ha : RowsAt w va xss) (hs : Says f lb w.heap.size w xss P)
    (h0 : ∀ w', Below w.heap.size w w' → (∀ xs ∈ xss, P xs = false) → Q (.returned (.bool false)) w')
    (h1 : ∀ w' xs, Below w.heap.size w w' → xs ∈ xss → P xs = true → Q (.returned (.bool true)) w') :
    Calls Tryz.prog 70 #[va, .func (.func f) #[] lb] w Q := by
  have H0 := Lib.hid h0; clear h0
  have H1 := Lib.hid h1; clear h1
  have HS := Lib.hid hs; clear hs
  have ha' := Lib.hid ha
  obtain ⟨aa, ca, rfl, la, lca, cca⟩ := ha.form
  clear ha
  go_enter Tryz.func70, Tryz.ntmps70
  go_wp2_with fail
  refine findIf_c eg ha'.out (Nat.le_refl _) HS.out ?_ ?_
  · intro w1 b1 hall
    have h3 := Lib.hid (H0.out w1 b1 hall)
    clear hall
    go_wp2_with fail
    exact h3.out
  · intro w1 k xs b1 hx hp hb
    have h3 := Lib.hid (H1.out w1 xs b1 (List.mem_of_getElem? hx) hp)
    have hk : (0 : Int) ≤ k := by omega
    clear hx hp hb
    go_wp2_with fail
    exact h3.out
set_option maxHeartbeats 800000 in
theorem sameSays {b : Nat} {w0 : World} {xss : List (List Int)} {u : Value} {q : List Int} (hbx : BoxAt w0 b 36 u) (hu : IntsAt w0 u q) : Says 71 #[.pointer (some ⟨b, 0, none⟩)] w0.heap.size w0 xss (fun xs => decide (xs = q)) := by
  intro wr v xs Q hB hm ha hQ
  have H := Lib.hid hQ; clear hQ
  have hcell := (hbx.below hB).cell
  have hu' := Lib.hid (hu.below hB)
  have ha' := Lib.hid ha
  obtain ⟨au, cu, rfl, _, _, _⟩ := hu.form
  obtain ⟨av, cv, rfl, _, _, _⟩ := ha.form
  clear ha hm hB hu hbx
  show Calls Tryz.prog 71 #[.slice av xs.length cv, .pointer (some ⟨b, 0, none⟩)] wr Q
  go_enter Tryz.func71, Tryz.ntmps71
  go_wp2_with fail
  refine Equal_c ha'.out hu'.out ?_
  intro w1 d1
  have h3 := Lib.hid (H.out w1 (d1.below _))
  go_wp2_with fail
  exact h3.out
set_option maxHeartbeats 4000000 in
theorem GroupOf_i {vg : Value} {gens : List (List Int)} {n : Int} {w : World} {Q : Ending → World → Prop} (hg : RowsAt w vg gens)
    (hQ : ∀ v w', OwnRows w' w.heap.size w'.heap.size v (Perms.gofW n gens) → Below w.heap.size w w' → Q (.returned (.tuple #[v, .bool (Perms.gofB n gens)])) w') :
    Calls Tryz.prog 37 #[.int .i64 n, vg] w Q := by
  have H := Lib.hid hQ; clear hQ
  have hg0 := Lib.hid hg
  have bad : ∀ w', Below w.heap.size w w' → Perms.gofO n gens = none → Q (.returned (.tuple #[.slice none 0 0, .bool false])) w' := fun w' hb hf => by
    have := H.out (.slice none 0 0) w' (by unfold Perms.gofW; rw [hf]; exact OwnRows.nil _ _ _) hb
    unfold Perms.gofB at this
    rw [hf] at this; exact this
  have good : ∀ w' v q, Below w.heap.size w w' → Perms.gofO n gens = some q → OwnRows w' w.heap.size w'.heap.size v (Perms.isort q) → Q (.returned (.tuple #[v, .bool true])) w' := fun w' v q hb hf ho => by
    have := H.out v w' (by unfold Perms.gofW; rw [hf]; exact ho) hb
    unfold Perms.gofB at this
    rw [hf] at this; exact this
  have bad' := Lib.hid bad
  have good' := Lib.hid good
  clear bad good
  obtain ⟨aa, ca, rfl, la, lca, cca⟩ := hg.form
  clear hg
  by_cases hn : 1 ≤ n ∧ n ≤ 10
  rotate_left
  · have e : Hid (Perms.gofO n gens = none) := Lib.hid (by unfold Perms.gofO Perms.gokB; rw [decide_eq_false hn]; rfl)
    by_cases h1 : n < 1
    · clear hn
      go_enter Tryz.func37, Tryz.ntmps37
      go_wp2_with fail
      exact bad'.out _ (Below.refl _ _) e.out
    · have h2 : 10 < n := by omega
      clear hn
      go_enter Tryz.func37, Tryz.ntmps37
      go_wp2_with fail
      exact bad'.out _ (Below.refl _ _) e.out
  obtain ⟨hn1, hn2⟩ := hn
  obtain ⟨n0, rfl⟩ : ∃ n0 : Nat, n = n0 := ⟨n.toNat, by omega⟩
  have hn3 : ¬ ((n0 : Int) < 1) := by omega
  have hn4 : ¬ ((10 : Int) < n0) := by omega
  go_enter Tryz.func37, Tryz.ntmps37
  go_wp2_with fail
  have hgl63 := Lib.hid la
  go_loopg [21] gens.length (fun g i wr => Below w.heap.size w wr ∧ ∃ j : Nat, i = .int .i64 j ∧ Hid ((gens.take j).all (fun p => Perms.permB p && decide ((p.length : Int) = n0)) = true) ∧ j + g ≤ gens.length ∧ gens.length ≤ j + g)
  case atStart => exact ⟨Below.refl _ _, 0, rfl, Lib.hid rfl, by omega, by omega⟩
  case round =>
    obtain ⟨hb, j, rfl, hok, hk1, hk2⟩ := hrel
    by_cases hj : j < gens.length
    · obtain ⟨b, off, u, p, rfl, hx, hcw, hi⟩ := hg0.out.cell hj
      obtain ⟨au, cu, rfl, lp, _, _⟩ := hi.form
      have i1 : (j : Int) < gens.length := by omega
      have hc := below_cells hb _ _ hcw
      have hi' := Lib.hid (hi.below hb)
      have hst : Hid ((gens.take (j + 1)).all (fun p => Perms.permB p && decide ((p.length : Int) = n0)) = (Perms.permB p && decide ((p.length : Int) = n0))) := Lib.hid (by
        rw [List.take_add_one, hx.out, List.all_append, hok.out]; simp)
      have hbadp : Hid ((Perms.permB p && decide ((p.length : Int) = n0)) = false → Perms.gofO n0 gens = none) := Lib.hid (fun h => by
        unfold Perms.gofO
        rw [if_neg]
        intro h2
        have := (Perms.gok_parts h2).2.2 p (List.mem_of_getElem? hx.out)
        rw [this.1, decide_eq_true this.2] at h
        cases h)
      clear hi
      go_wp2_with fail
      refine PermOk_i hi'.out ?_
      intro w2 b2
      have hbb : Below w.heap.size w w2 := hb.trans (b2.mono hb.size)
      cases hpb : Perms.permB p with
      | false =>
        have hf := Lib.hid (hbadp.out (by rw [hpb]; rfl))
        clear hpb
        go_wp2_with fail
        exact bad'.out _ hbb hf.out
      | true =>
        by_cases hln : (p.length : Int) = n0
        · have hs2 : Hid ((gens.take (j + 1)).all (fun p => Perms.permB p && decide ((p.length : Int) = n0)) = true) := Lib.hid (by rw [hst.out, hpb, decide_eq_true hln]; rfl)
          have hne : ((p.length : Int) != n0) = false := by rw [hln]; simp
          clear hpb hln
          go_wp2_with fail
          go_roundg (gk - 1)
          case measure => omega
          case rel => exact ⟨hbb, j + 1, by go_num, hs2, by omega, by omega⟩
        · have hf := Lib.hid (hbadp.out (by rw [hpb, decide_eq_false hln]; rfl))
          have hne : ((p.length : Int) != n0) = true := by simpa using hln
          clear hpb hln
          go_wp2_with fail
          exact bad'.out _ hbb hf.out
    · have hgok : Perms.gokB n0 gens = true := by
        have h := hok.out
        rw [List.take_of_length_le (by omega)] at h
        unfold Perms.gokB
        rw [h, decide_eq_true (by omega)]; rfl
      have hgo : Hid (Perms.gofO n0 gens = Perms.bfs gens 121 0 [Perms.iota n0]) := Lib.hid (by unfold Perms.gofO; rw [if_pos hgok, Int.toNat_natCast])
      have hgr := Lib.hid (Perms.gok_inR hgok)
      have hg1 := Lib.hid (hg0.out.below hb)
      clear hgok hok
      go_wp2_with fail
      refine IdentityPerm_i (by omega) (by omega) ?_
      intro v1 w1 o1 b1
      obtain ⟨a1, c1, rfl, _, _, _⟩ := Own.form o1
      have bw1 := hb.trans (b1.mono hb.size)
      have q1 := own_rows_one (OwnInts.mono o1 hb.size) bw1.size
      have ba1 := below_alloc w1 (.cells #[.slice a1 (ints (Perms.iota n0)).length c1] 36)
      have bwa1 := bw1.trans (ba1.mono bw1.size)
      obtain ⟨us0, g0o, _, g0r⟩ := (q1.tight).parts
      have g0r' := Lib.hid g0r
      have hgw2 := Lib.hid (hg0.out.below bwa1)
      have hinv := Lib.hid (Perms.GofInv.start (n := n0))
      clear q1 g0r
      go_wp2_with fail
      go_loopg [8, 9] 120 (fun gg u8 u9 wr => ∃ (a : Nat) (q : List (List Int)) (us : List Value), u9 = .int .i64 a ∧ Own wr w.heap.size 36 u8 us ∧ Hid (Rows wr w.heap.size wr.heap.size us q) ∧ Hid (Perms.GofInv n0 q) ∧ Hid (Perms.gofO n0 gens = Perms.bfs gens (gg + 1) a q) ∧ Below w.heap.size w wr ∧ Hid (RowsAt wr (.slice aa gens.length ca) gens) ∧ a ≤ q.length ∧ 0 < q.length ∧ a + gg = 120)
      case atStart => exact ⟨0, [Perms.iota n0], us0, rfl, g0o, g0r', hinv, hgo, bwa1, hgw2, by simp, by simp, rfl⟩
      case round =>
        obtain ⟨a, q, us, rfl, og, rg, inv, hbf, bwr, hgr3, ha1, hpos, ha2⟩ := hrel
        obtain ⟨gk1, hgk1⟩ : ∃ g, g = gk := ⟨_, rfl⟩
        obtain ⟨a8, c8, rfl, _, _, _⟩ := Own.form og
        have hql := inv.out.le
        have husl : us.length ≤ q.length ∧ q.length ≤ us.length := by have := rg.out.1; omega
        by_cases ha : a < q.length
        · have haI : (a : Int) < us.length := by omega
          obtain ⟨p, hp0⟩ : ∃ p, q[a]? = some p := ⟨_, List.getElem?_eq_getElem ha⟩
          have hp := Lib.hid hp0
          have hgk : gk = gk1 - 1 + 1 := by omega
          have hrow : Hid (Perms.gofO n0 gens = (Perms.rowTo gens p q gens.length).bind (Perms.bfs gens (gk1 - 1 + 1) (a + 1))) := Lib.hid (by
            rw [hbf.out, Perms.bfs_row hp0, ← hgk])
          clear hp0
          go_wp2_with fail
          have hst0 : Hid (Perms.rowTo gens p q 0 = some q) := Lib.hid rfl
          go_loopg [8, 46] gens.length (fun gg u8 u46 wr2 => ∃ (t : Nat) (cur : List (List Int)) (us : List Value), u46 = .int .i64 t ∧ Own wr2 w.heap.size 36 u8 us ∧ Hid (Rows wr2 w.heap.size wr2.heap.size us cur) ∧ Hid (Perms.GofInv n0 cur) ∧ Hid (Perms.rowTo gens p q t = some cur) ∧ Hid (cur[a]? = some p) ∧ Below w.heap.size w wr2 ∧ Hid (RowsAt wr2 (.slice aa gens.length ca) gens) ∧ t + gg ≤ gens.length ∧ gens.length ≤ t + gg)
          case atStart => exact ⟨0, q, us, rfl, og, rg, inv, hst0, hp, bwr, hgr3, by omega, by omega⟩
          case round =>
            obtain ⟨t, cur, us, rfl, og, rg, inv, hrt, hpa, bwr, hgr3, ht1, ht2⟩ := hrel
            obtain ⟨a8, c8, rfl, _, _, _⟩ := Own.form og
            have hql := inv.out.le
            have husl : us.length ≤ cur.length ∧ cur.length ≤ us.length := by have := rg.out.1; omega
            have hac : a < cur.length := (List.getElem?_eq_some_iff.1 hpa.out).1
            by_cases ht : t < gens.length
            · have htI : (t : Int) < gens.length := by omega
              have haI2 : (a : Int) < us.length := by omega
              obtain ⟨b7, f7, ug, s, rfl, hs, hcs, hus⟩ := hgr3.out.cell ht
              obtain ⟨ag, cg, rfl, _, _, _⟩ := hus.form
              have hus' := Lib.hid hus
              obtain ⟨up, hup, hoip, _⟩ := rg.out.2.1 a p hpa.out
              obtain ⟨ap, cp, rfl, _, _, _⟩ := Own.form hoip
              obtain ⟨g9, rfl, _, _⟩ := Own.head og (by omega)
              have hcp := Own.cell og hup
              have hip := Lib.hid (OwnInts.at hoip)
              have hpR := inv.out.rg p (List.mem_of_getElem? hpa.out)
              have hsR := hgr.out s (List.mem_of_getElem? hs.out)
              have hcR := Lib.hid (Perms.inR_comp hpR hsR)
              have hpl : p.length ≤ 1048576 := by rw [hpR.1]; omega
              have hpr : Hid (∀ x ∈ p, 0 ≤ x ∧ x < s.length) := Lib.hid (by rw [hsR.1]; exact hpR.2)
              have hstep : Hid (Perms.rowTo gens p q (t + 1) = Perms.stepG (some cur) (Perms.comp p s)) := Lib.hid (by rw [Perms.rowTo_step hs.out, hrt.out])
              clear hus hup hpR hsR
              go_wp2_with fail
              refine compose_i hip.out hus'.out hpl hpr.out ?_
              intro v3 w3 o3 b3
              obtain ⟨a3, c3, rfl, _, _, _⟩ := Own.form o3
              obtain ⟨c, hc⟩ : ∃ c, c = Perms.comp p s := ⟨_, rfl⟩
              rw [← hc] at o3 hcR hstep ⊢
              have bw3 := bwr.trans (b3.mono bwr.size)
              have ba3 := below_alloc w3 (.cells #[.slice a3 (ints c).length c3] 36)
              have hbx : BoxAt (w3.alloc (.cells #[.slice a3 (ints c).length c3] 36)) w3.heap.size 36 (.slice a3 (ints c).length c3) := heap_alloc_new _ _
              have b34 : Below wr.heap.size wr (w3.alloc (.cells #[.slice a3 (ints c).length c3] 36)) := b3.trans (ba3.mono b3.size)
              have bw4 := bwr.trans (b34.mono bwr.size)
              have og4 := Own.below og b34
              have rg4 := Lib.hid (rg.out.below b34)
              have o34 := Lib.hid (OwnInts.below o3 ba3)
              have hrat := Lib.hid ((rg4.out.vals).at og4)
              have hS := Lib.hid (sameSays (xss := cur) hbx (OwnInts.at o34.out))
              have hbx' := Lib.hid hbx
              clear hc hbx o3
              go_wp2_with fail
              refine containsIf_c (fun args w => enters_of Tryz.func71 (by kernel_rfl) rfl args w) hrat.out hS.out ?_ ?_
              · intro w5 b5 hall
                have hm : c ∉ cur := fun h => by have := hall c h; simp at this
                have hcell5 := (hbx'.out.below b5).cell
                have bw5 := bw4.trans (b5.mono bw4.size)
                by_cases h120 : cur.length = 120
                · have hst2 : Hid (Perms.rowTo gens p q (t + 1) = none) := Lib.hid (by rw [hstep.out]; simp [Perms.stepG, hm, h120])
                  have hno : Hid (Perms.gofO n0 gens = none) := Lib.hid (by rw [hrow.out, Perms.rowTo_none hst2.out]; rfl)
                  have hus120 : (us.length : Int) = 120 := by omega
                  clear hm h120 hall
                  go_wp2_with fail
                  exact bad'.out _ bw5 hno.out
                · have hst2 : Hid (Perms.rowTo gens p q (t + 1) = some (cur ++ [c])) := Lib.hid (by rw [hstep.out]; simp [Perms.stepG, hm, h120])
                  have inv2 := Lib.hid (inv.out.add hcR.out hm h120)
                  have hus120 : ((us.length : Int) == 120) = false := by
                    rw [beq_eq_false_iff_ne]; omega
                  have hpa2 : Hid ((cur ++ [c])[a]? = some p) := Lib.hid (by rw [List.getElem?_append_left hac]; exact hpa.out)
                  have og5 := Own.below og4 b5
                  have rg5 := Lib.hid (rg4.out.below b5)
                  have o35 := Lib.hid (OwnInts.below o34.out b5)
                  have ba5 := below_alloc w5 (.cells #[.slice a3 (ints c).length c3] 36)
                  have oq6 := Own.below og5 ba5
                  have hr6 := row_one w5 (.slice a3 (ints c).length c3) 36
                  have hone6 : Hid (∀ y ∈ [Value.slice a3 (ints c).length c3], y.oneCell' = true) := Lib.hid (fun y hy => by rw [List.mem_singleton] at hy; rw [hy]; rfl)
                  have bw6 := bw5.trans (ba5.mono bw5.size)
                  clear hm hall
                  go_wp2_with (at_builtin; refine app_outer rfl (.tmp 62) (.tmp 64) rfl rfl oq6 rfl hr6 hone6.out (by show us.length + 1 ≤ 1099511627776; omega) bw6.size ?_; intro v7 w7 o7 g7)
                  have bw7 := bw6.grown g7 bw6.size (fun b hb => (Own.lt oq6 hb).1)
                  have hrp := (((rg5.out.below ba5).push (OwnInts.mono (OwnInts.below o35.out ba5) bwr.size) (fun b hb => (Own.lt o35.out hb).1)).outer oq6 g7).tight
                  have rg7 := Lib.hid hrp
                  have hgr7 := Lib.hid (hg0.out.below bw7)
                  go_roundg (gk - 1)
                  case measure => omega
                  case rel => exact ⟨t + 1, cur ++ [c], us ++ [.slice a3 (ints c).length c3], by go_num, o7, rg7, inv2, hst2, hpa2, bw7, hgr7, by omega, by omega⟩
              · intro w5 xs b5 hxs hxp
                have hm : c ∈ cur := by have e := of_decide_eq_true hxp; rw [← e]; exact hxs
                have hst2 : Hid (Perms.rowTo gens p q (t + 1) = some cur) := Lib.hid (by rw [hstep.out]; simp [Perms.stepG, hm])
                have bw5 := bw4.trans (b5.mono bw4.size)
                have og5 := Own.below og4 b5
                have rg5 := Lib.hid ((rg4.out.below b5).tight)
                have hgr5 := Lib.hid (hg0.out.below bw5)
                clear hm hxs hxp
                go_wp2_with fail
                go_roundg (gk - 1)
                case measure => omega
                case rel => exact ⟨t + 1, cur, us, by go_num, og5, rg5, inv, hst2, hpa, bw5, hgr5, by omega, by omega⟩
            · have hte : t = gens.length := by omega
              have hbf2 : Hid (Perms.gofO n0 gens = Perms.bfs gens (gk1 - 1 + 1) (a + 1) cur) := Lib.hid (by rw [hrow.out, ← hte, hrt.out]; rfl)
              go_wp2_with fail
              go_roundg (gk1 - 1)
              case measure => omega
              case rel => exact ⟨a + 1, cur, us, by go_num, og, rg, inv, hbf2, bwr, hgr3, by omega, by omega, by omega⟩
        · obtain rfl : a = q.length := by omega
          have hfin : Hid (Perms.gofO n0 gens = some q) := Lib.hid (by rw [hbf.out, Perms.bfs_end (Nat.le_refl _)])
          have how := Lib.hid (rg.out.whole og (Own.inBlk og))
          have bws := bwr.size
          go_wp2_with fail
          refine sortRows_c how.out bws hpos (by omega) ?_
          intro w5 yss hp5 hs5 o5 b5
          obtain rfl : yss = Perms.isort q := sorted_unique (hp5.trans (Perms.isort_perm _).symm) hs5 (Perms.isort_sorted _)
          have h3 := Lib.hid (good'.out w5 _ q (bwr.trans b5) hfin.out o5)
          go_wp2_with fail
          exact h3.out
end Go.Proofs.YtdjdagcgodpgdaaGreat
