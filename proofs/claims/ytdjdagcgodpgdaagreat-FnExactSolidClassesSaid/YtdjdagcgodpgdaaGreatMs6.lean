/-
  Part 6 of 7 of what the law FnExactSolidClasses rests on.
-/
import Derived.Test.YtdjdagcgodpgdaaGreatMs5
set_option maxRecDepth 20000
/- The group that some permutations make, as the reference makes it. -/
set_option linter.unusedVariables false
namespace Go.Proofs.YtdjdagcgodpgdaaGreat
open Go.RowKit

set_option maxHeartbeats 4000000 in
theorem GroupOf_s {vg : Value} {gens : List (List Int)} {n : Int} {w : World} {Q : Ending → World → Prop} (hg : RowsAt w vg gens)
    (hQ : ∀ v w', OwnRows w' w.heap.size w'.heap.size v (Perms.gofW n gens) → Below w.heap.size w w' → Q (.returned (.tuple #[v, .bool (Perms.gofB n gens)])) w') :
    Calls Tryz.prog 27 #[.int .i64 n, vg] w Q := by
  have H := Lib.hid hQ; clear hQ
  have hg0 := Lib.hid hg
  have bad : ∀ w', Below w.heap.size w w' → Perms.gofO n gens = none → Q (.returned (.tuple #[.slice none 0 0, .bool false])) w' := fun w' hb hf => by
    have := H.out (.slice none 0 0) w' (by unfold Perms.gofW; rw [hf]; exact OwnRows.nil _ _ _) hb
    unfold Perms.gofB at this
    rw [hf] at this; exact this
  have good : ∀ w' v q, Below w.heap.size w w' → Perms.gofO n gens = some q → OwnRows w' w.heap.size w'.heap.size v (Perms.isort q) → Q (.returned (.tuple #[v, .bool true])) w' := fun w' v q hb hf ho => by
    have := H.out v w' (by unfold Perms.gofW; rw [hf]; exact ho) hb
    unfold Perms.gofB at this
    rw [hf] at this; exact this
  have bad' := Lib.hid bad
  have good' := Lib.hid good
  clear bad good
  obtain ⟨aa, ca, rfl, la, lca, cca⟩ := hg.form
  clear hg
  by_cases hn : 1 ≤ n ∧ n ≤ 10
  rotate_left
  · have hd : Hid (decide (1 ≤ n ∧ n ≤ 10) = false) := Lib.hid (decide_eq_false hn)
    have e : Hid (Perms.gofO n gens = none) := Lib.hid (by unfold Perms.gofO Perms.gokB; rw [hd.out]; rfl)
    clear hn
    go_enter Tryz.func27, Tryz.ntmps27
    go_wp2_with (go_at_call 29; refine l01In_c ?_; rw [hd.out])
    all_goals exact bad'.out _ (Below.refl _ _) e.out
  have hd : Hid (decide (1 ≤ n ∧ n ≤ 10) = true) := Lib.hid (decide_eq_true hn)
  obtain ⟨hn1, hn2⟩ := hn
  obtain ⟨n0, rfl⟩ : ∃ n0 : Nat, n = n0 := ⟨n.toNat, by omega⟩
  go_enter Tryz.func27, Tryz.ntmps27
  go_wp2_with (go_at_call 29; refine l01In_c ?_; rw [hd.out])
  have hgl63 := Lib.hid la
  go_loopg [19] gens.length (fun g i wr => Below w.heap.size w wr ∧ ∃ j : Nat, i = .int .i64 j ∧ Hid ((gens.take j).all (fun p => Perms.permB p && decide ((p.length : Int) = n0)) = true) ∧ j + g ≤ gens.length ∧ gens.length ≤ j + g)
  case atStart => exact ⟨Below.refl _ _, 0, rfl, Lib.hid rfl, by omega, by omega⟩
  case round =>
    obtain ⟨hb, j, rfl, hok, hk1, hk2⟩ := hrel
    by_cases hj : j < gens.length
    · obtain ⟨b, off, u, p, rfl, hx, hcw, hi⟩ := hg0.out.cell hj
      obtain ⟨au, cu, rfl, lp, _, _⟩ := hi.form
      have i1 : (j : Int) < gens.length := by omega
      have hc := below_cells hb _ _ hcw
      have hi' := Lib.hid (hi.below hb)
      have hst : Hid ((gens.take (j + 1)).all (fun p => Perms.permB p && decide ((p.length : Int) = n0)) = (Perms.permB p && decide ((p.length : Int) = n0))) := Lib.hid (by
        rw [List.take_add_one, hx.out, List.all_append, hok.out]; simp)
      have hbadp : Hid ((Perms.permB p && decide ((p.length : Int) = n0)) = false → Perms.gofO n0 gens = none) := Lib.hid (fun h => by
        unfold Perms.gofO
        rw [if_neg]
        intro h2
        have := (Perms.gok_parts h2).2.2 p (List.mem_of_getElem? hx.out)
        rw [this.1, decide_eq_true this.2] at h
        cases h)
      clear hi
      go_wp2_with fail
      refine PermOk_s hi'.out ?_
      intro w2 b2
      have hbb : Below w.heap.size w w2 := hb.trans (b2.mono hb.size)
      cases hpb : Perms.permB p with
      | false =>
        have hf := Lib.hid (hbadp.out (by rw [hpb]; rfl))
        clear hpb
        go_wp2_with fail
        exact bad'.out _ hbb hf.out
      | true =>
        by_cases hln : (p.length : Int) = n0
        · have hs2 : Hid ((gens.take (j + 1)).all (fun p => Perms.permB p && decide ((p.length : Int) = n0)) = true) := Lib.hid (by rw [hst.out, hpb, decide_eq_true hln]; rfl)
          have hne : ((p.length : Int) != n0) = false := by rw [hln]; simp
          clear hpb hln
          go_wp2_with fail
          go_roundg (gk - 1)
          case measure => omega
          case rel => exact ⟨hbb, j + 1, by go_num, hs2, by omega, by omega⟩
        · have hf := Lib.hid (hbadp.out (by rw [hpb, decide_eq_false hln]; rfl))
          have hne : ((p.length : Int) != n0) = true := by simpa using hln
          clear hpb hln
          go_wp2_with fail
          exact bad'.out _ hbb hf.out
    · have hgok : Perms.gokB n0 gens = true := by
        have h := hok.out
        rw [List.take_of_length_le (by omega)] at h
        unfold Perms.gokB
        rw [h, decide_eq_true (by omega)]; rfl
      have hgo : Hid (Perms.gofO n0 gens = Perms.bfs gens 121 0 [Perms.iota n0]) := Lib.hid (by unfold Perms.gofO; rw [if_pos hgok, Int.toNat_natCast])
      have hgr := Lib.hid (Perms.gok_inR hgok)
      have hg1 := Lib.hid (hg0.out.below hb)
      clear hgok hok
      go_wp2_with fail
      refine IdentityPerm_s (by omega) (by omega) ?_
      intro v1 w1 o1 b1
      obtain ⟨a1, c1, rfl, _, _, _⟩ := Own.form o1
      have bw1 := hb.trans (b1.mono hb.size)
      have hb1s := b1.size
      have q1 := own_rows_one (OwnInts.mono o1 hb.size) bw1.size
      have ba1 := below_alloc w1 (.cells #[.slice a1 (ints (Perms.iota n0)).length c1] 36)
      have bwa1 := bw1.trans (ba1.mono bw1.size)
      have q1' := Lib.hid q1
      clear q1
      go_wp2_with fail
      refine IdentityPerm_s (by omega) (by omega) ?_
      intro v2 w2 o2 b2
      obtain ⟨a2, c2, rfl, _, _, _⟩ := Own.form o2
      have bw2 := bwa1.trans (b2.mono bwa1.size)
      have q2 := q1'.out.below b2
      have r2 := own_rows_one (OwnInts.mono o2 bwa1.size) bw2.size
      have ba2 := below_alloc w2 (.cells #[.slice a2 (ints (Perms.iota n0)).length c2] 36)
      have bwa2 := bw2.trans (ba2.mono bw2.size)
      have q3 := q2.below ba2
      obtain ⟨us0, g0o, _, g0r⟩ := (q3.tight).parts
      obtain ⟨uq0, p0o, _, p0r⟩ := (r2.tight).parts
      have p0v := p0r.vals
      have hgw2 := Lib.hid (((hg1.out.below b1).below ba1).below b2 |>.below ba2)
      have g0r' : Hid (Rows (w2.alloc (.cells #[.slice a2 (ints (Perms.iota n0)).length c2] 36)) w.heap.size _ us0 (Perms.isort [Perms.iota n0])) := Lib.hid g0r
      have p0v' := Lib.hid p0v
      have hinv := Lib.hid (Perms.GofInv.start (n := n0))
      clear q2 q3 r2 g0r p0r p0v q1'
      go_wp2_with fail
      go_loopg [8, 9, 10] 120 (fun gg u8 u9 u10 wr => ∃ (a : Nat) (q : List (List Int)) (us uq : List Value), u10 = .int .i64 a ∧ Own wr w.heap.size 36 u8 us ∧ Hid (Rows wr w.heap.size wr.heap.size us (Perms.isort q)) ∧ Own wr w.heap.size 36 u9 uq ∧ Hid (Vals wr w.heap.size uq q) ∧ Hid (Perms.GofInv n0 q) ∧ Hid (Perms.gofO n0 gens = Perms.bfs gens (gg + 1) a q) ∧ Below w.heap.size w wr ∧ Hid (RowsAt wr (.slice aa gens.length ca) gens) ∧ a ≤ q.length ∧ a + gg = 120)
      case atStart => exact ⟨0, [Perms.iota n0], us0, uq0, rfl, g0o, g0r', p0o, p0v', hinv, hgo, bwa2, hgw2, by simp, rfl⟩
      case round =>
        obtain ⟨a, q, us, uq, rfl, og, rg, oq, vq, inv, hbf, bwr, hgr3, ha1, ha2⟩ := hrel
        obtain ⟨gk1, hgk1⟩ : ∃ g, g = gk := ⟨_, rfl⟩
        obtain ⟨a8, c8, rfl, _, _, _⟩ := Own.form og
        obtain ⟨a9, c9, rfl, _, _, _⟩ := Own.form oq
        have hql := inv.out.le
        have huql : uq.length ≤ q.length ∧ q.length ≤ uq.length := by have := vq.out.1; omega
        by_cases ha : a < q.length
        · have haI : (a : Int) < uq.length := by omega
          obtain ⟨p, hp0⟩ : ∃ p, q[a]? = some p := ⟨_, List.getElem?_eq_getElem ha⟩
          have hp := Lib.hid hp0
          have hgk : gk = gk1 - 1 + 1 := by omega
          have hrow : Hid (Perms.gofO n0 gens = (Perms.rowTo gens p q gens.length).bind (Perms.bfs gens (gk1 - 1 + 1) (a + 1))) := Lib.hid (by
            rw [hbf.out, Perms.bfs_row hp0, ← hgk])
          clear hp0
          go_wp2_with fail
          have hst0 : Hid (Perms.rowTo gens p q 0 = some q) := Lib.hid rfl
          go_loopg [8, 9, 47] gens.length (fun gg u8 u9 u47 wr2 => ∃ (t : Nat) (cur : List (List Int)) (us uq : List Value), u47 = .int .i64 t ∧ Own wr2 w.heap.size 36 u8 us ∧ Hid (Rows wr2 w.heap.size wr2.heap.size us (Perms.isort cur)) ∧ Own wr2 w.heap.size 36 u9 uq ∧ Hid (Vals wr2 w.heap.size uq cur) ∧ Hid (Perms.GofInv n0 cur) ∧ Hid (Perms.rowTo gens p q t = some cur) ∧ Hid (cur[a]? = some p) ∧ Below w.heap.size w wr2 ∧ Hid (RowsAt wr2 (.slice aa gens.length ca) gens) ∧ t + gg ≤ gens.length ∧ gens.length ≤ t + gg)
          case atStart => exact ⟨0, q, us, uq, rfl, og, rg, oq, vq, inv, hst0, hp, bwr, hgr3, by omega, by omega⟩
          case round =>
            obtain ⟨t, cur, us, uq, rfl, og, rg, oq, vq, inv, hrt, hpa, bwr, hgr3, ht1, ht2⟩ := hrel
            obtain ⟨a8, c8, rfl, _, _, _⟩ := Own.form og
            obtain ⟨a9, c9, rfl, _, _, _⟩ := Own.form oq
            have hql := inv.out.le
            have huql : uq.length ≤ cur.length ∧ cur.length ≤ uq.length := by have := vq.out.1; omega
            have husl : us.length ≤ cur.length ∧ cur.length ≤ us.length := by have := rg.out.1; rw [Perms.isort_len] at this; omega
            have hac : a < cur.length := (List.getElem?_eq_some_iff.1 hpa.out).1
            by_cases ht : t < gens.length
            · have htI : (t : Int) < gens.length := by omega
              have haI2 : (a : Int) < uq.length := by omega
              obtain ⟨b7, f7, ug, s, rfl, hs, hcs, hus⟩ := hgr3.out.cell ht
              obtain ⟨ag, cg, rfl, _, _, _⟩ := hus.form
              have hus' := Lib.hid hus
              obtain ⟨up, hup, hoip⟩ := vq.out.2 a p hpa.out
              obtain ⟨ap, cp, rfl, _, _, _⟩ := Own.form hoip
              obtain ⟨g9, rfl, _, _⟩ := Own.head oq (by omega)
              have hcp := Own.cell oq hup
              have hip := Lib.hid (OwnInts.at hoip)
              have hpR := inv.out.rg p (List.mem_of_getElem? hpa.out)
              have hsR := hgr.out s (List.mem_of_getElem? hs.out)
              have hcR := Lib.hid (Perms.inR_comp hpR hsR)
              have hpl : p.length ≤ 1048576 := by rw [hpR.1]; omega
              have hpr : Hid (∀ x ∈ p, 0 ≤ x ∧ x < s.length) := Lib.hid (by rw [hsR.1]; exact hpR.2)
              have hstep : Hid (Perms.rowTo gens p q (t + 1) = Perms.stepG (some cur) (Perms.comp p s)) := Lib.hid (by rw [Perms.rowTo_step hs.out, hrt.out])
              clear hus hup hpR hsR
              go_wp2_with fail
              refine compose_s hip.out hus'.out hpl hpr.out ?_
              intro v3 w3 o3 b3
              obtain ⟨a3, c3, rfl, _, _, _⟩ := Own.form o3
              have bw3 := bwr.trans (b3.mono bwr.size)
              have og3 := Own.below og b3
              have rg3 := Lib.hid (rg.out.below b3)
              have oq3 := Own.below oq b3
              have vq3 := Lib.hid (vq.out.below b3)
              have hgr33 := Lib.hid (hgr3.out.below b3)
              have hgat := Lib.hid ((rg3.out.vals).at og3)
              have o3' := Lib.hid o3
              obtain ⟨c, hc⟩ : ∃ c, c = Perms.comp p s := ⟨_, rfl⟩
              rw [← hc] at o3 o3' hcR hstep ⊢
              have hcn := hcR.out.1
              have hln : Hid (∀ x ∈ Perms.isort cur, x.length = c.length) := Lib.hid (fun x hx => by rw [(inv.out.rg x (Perms.isort_mem.1 hx)).1, hcn])
              have hasc := Lib.hid (Perms.isort_asc inv.out.nd)
              have hisl : (Perms.isort cur).length ≤ 1048576 := by rw [Perms.isort_len]; omega
              have hisl' := Lib.hid hisl
              clear hc hisl o3
              by_cases hm : c ∈ cur
              · have hix : Hid (0 ≤ Perms.idx (Perms.isort cur) c) := Lib.hid (by unfold Perms.idx; rw [if_pos (Perms.isort_mem.2 hm)]; omega)
                have hst2 : Hid (Perms.rowTo gens p q (t + 1) = some cur) := Lib.hid (by rw [hstep.out]; simp [Perms.stepG, hm])
                clear hm hcn
                go_wp2_with fail
                refine find_s hgat.out (OwnInts.at o3'.out) hasc.out hisl'.out hln.out ?_
                intro w4 d4
                have hix2 := hix.out
                obtain ⟨ix, hixe⟩ : ∃ ix, ix = Perms.idx (Perms.isort cur) c := ⟨_, rfl⟩
                rw [← hixe] at hix2 ⊢
                have og4 := Own.drawn og3 d4
                have rg4 := Lib.hid (rg3.out.drawn d4)
                have oq4 := Own.drawn oq3 d4
                have vq4 := Lib.hid (vq3.out.drawn d4)
                have hgr4 := Lib.hid (hgr33.out.drawn d4)
                have bw4 := bw3.trans (d4.below _)
                clear hixe
                go_wp2_with fail
                go_roundg (gk - 1)
                case measure => omega
                case rel => exact ⟨t + 1, cur, us, uq, by go_num, og4, Lib.hid (rg4.out.tight), oq4, vq4, inv, hst2, hpa, bw4, hgr4, by omega, by omega⟩
              · have hix : Hid (Perms.idx (Perms.isort cur) c = -1) := Lib.hid (by unfold Perms.idx; rw [if_neg (fun h => hm (Perms.isort_mem.1 h))])
                by_cases h120 : cur.length = 120
                · have hst2 : Hid (Perms.rowTo gens p q (t + 1) = none) := Lib.hid (by rw [hstep.out]; simp [Perms.stepG, hm, h120])
                  have hno : Hid (Perms.gofO n0 gens = none) := Lib.hid (by rw [hrow.out, Perms.rowTo_none hst2.out]; rfl)
                  have hus120 : (us.length : Int) = 120 := by omega
                  clear hm h120 hcn
                  go_wp2_with fail
                  refine find_s hgat.out (OwnInts.at o3'.out) hasc.out hisl'.out hln.out ?_
                  intro w4 d4
                  rw [hix.out]
                  have bw4 := bw3.trans (d4.below _)
                  go_wp2_with fail
                  exact bad'.out _ bw4 hno.out
                · have hst2 : Hid (Perms.rowTo gens p q (t + 1) = some (cur ++ [c])) := Lib.hid (by rw [hstep.out]; simp [Perms.stepG, hm, h120])
                  have inv2 := Lib.hid (inv.out.add hcR.out hm h120)
                  have hus120 : ((us.length : Int) == 120) = false := by
                    rw [beq_eq_false_iff_ne]; omega
                  have hpa2 : Hid ((cur ++ [c])[a]? = some p) := Lib.hid (by rw [List.getElem?_append_left hac]; exact hpa.out)
                  clear hm hcn
                  go_wp2_with fail
                  refine find_s hgat.out (OwnInts.at o3'.out) hasc.out hisl'.out hln.out ?_
                  intro w4 d4
                  rw [hix.out]
                  have og4 := Own.drawn og3 d4
                  have rg4 := Lib.hid (rg3.out.drawn d4)
                  have oq4 := Own.drawn oq3 d4
                  have vq4 := Lib.hid (vq3.out.drawn d4)
                  have hgr4 := Lib.hid (hgr33.out.drawn d4)
                  have bw4 := bw3.trans (d4.below _)
                  have o34 := Lib.hid (OwnInts.drawn o3'.out d4)
                  have hil : Hid ((Perms.isort cur).length ≤ 1024) := Lib.hid (by rw [Perms.isort_len]; omega)
                  have hln4 : Hid (∀ x ∈ Perms.isort cur, x.length = n0) := Lib.hid (fun x hx => (inv.out.rg x (Perms.isort_mem.1 hx)).1)
                  go_wp2_with fail
                  refine l03Put_c (n := n0) (Own.row og4) rg4.out.1 rg4.out.vals.ints (OwnInts.at o34.out) hil.out hln4.out hcR.out.1 ?_
                  intro v5 w5 i hi hlow hhi o5 b5
                  have hisn : Perms.isort (cur ++ [c]) = ((Perms.isort cur).take i ++ [c]) ++ (Perms.isort cur).drop i := by
                    rw [Perms.isort_snoc, Perms.ins_at hi hlow hhi, List.append_assoc, List.singleton_append]
                  have b3s := b3.size
                  have d4s := (d4.below 0).size
                  have rg5 := (rg4.out.below b5).ins (OwnInts.mono (OwnInts.below o34.out b5) bwr.size) (fun b hb => (Own.lt o3'.out hb).1) hi
                  rw [← hisn] at rg5
                  have rg5' := Lib.hid rg5
                  obtain ⟨us5, hus5⟩ : ∃ us5, us5 = ((us.take i ++ [.slice a3 (ints c).length c3]) ++ us.drop i) := ⟨_, rfl⟩
                  rw [← hus5] at o5 rg5'
                  obtain ⟨a5, c5, rfl, _, _, _⟩ := Own.form o5
                  have oq5 := Own.below oq4 b5
                  have vq5 := Lib.hid (vq4.out.below b5)
                  have hgr5 := Lib.hid (hgr4.out.below b5)
                  have bw5 := bw4.trans (b5.mono bw4.size)
                  have o35 := Lib.hid (OwnInts.below o34.out b5)
                  clear rg5 hus5 hisn hlow hhi hi
                  have ba5 := below_alloc w5 (.cells #[.slice a3 (ints c).length c3] 36)
                  have oq6 := Own.below oq5 ba5
                  have hr6 := row_one w5 (.slice a3 (ints c).length c3) 36
                  have hone6 : Hid (∀ y ∈ [Value.slice a3 (ints c).length c3], y.oneCell' = true) := Lib.hid (fun y hy => by rw [List.mem_singleton] at hy; rw [hy]; rfl)
                  have bw6 := bw5.trans (ba5.mono bw5.size)
                  go_wp2_with (at_builtin; refine app_outer rfl (.tmp 67) (.tmp 69) rfl rfl oq6 rfl hr6 hone6.out (by show uq.length + 1 ≤ 1099511627776; omega) bw6.size ?_; intro v7 w7 o7 g7)
                  have bw7 := bw6.grown g7 bw6.size (fun b hb => (Own.lt oq6 hb).1)
                  have og7 := (Own.grown (Own.below o5 ba5) g7 (own_ne' oq4 o5 (Nat.le_refl _))).mono bw4.size
                  have rg7 := Lib.hid (((rg5'.out.below ba5).outer oq6 g7).tight)
                  have vq7 := Lib.hid (((vq5.out.below ba5).push (OwnInts.mono (OwnInts.below o35.out ba5) bwr.size)).outer oq6 g7)
                  have hgr7 := Lib.hid (hg0.out.below bw7)
                  go_roundg (gk - 1)
                  case measure => omega
                  case rel => exact ⟨t + 1, cur ++ [c], us5, uq ++ [.slice a3 (ints c).length c3], by go_num, og7, rg7, o7, vq7, inv2, hst2, hpa2, bw7, hgr7, by omega, by omega⟩
            · have hte : t = gens.length := by omega
              have hbf2 : Hid (Perms.gofO n0 gens = Perms.bfs gens (gk1 - 1 + 1) (a + 1) cur) := Lib.hid (by rw [hrow.out, ← hte, hrt.out]; rfl)
              go_wp2_with fail
              go_roundg (gk1 - 1)
              case measure => omega
              case rel => exact ⟨a + 1, cur, us, uq, by go_num, og, rg, oq, vq, inv, hbf2, bwr, hgr3, by omega, by omega⟩
        · obtain rfl : a = q.length := by omega
          have hfin : Hid (Perms.gofO n0 gens = some q) := Lib.hid (by rw [hbf.out, Perms.bfs_end (Nat.le_refl _)])
          have how := (rg.out.whole og (Own.inBlk og))
          have h3 := Lib.hid (good'.out wr _ q bwr hfin.out how)
          go_wp2_with fail
          exact h3.out
end Go.Proofs.YtdjdagcgodpgdaaGreat
/- The groups of solid bodies, as the reference makes them. -/
set_option linter.unusedVariables false
namespace Go.Proofs.YtdjdagcgodpgdaaGreat
open Go.RowKit

def Perms.tetra : List (List Int) := [[1, 2, 0, 3], [1, 0, 3, 2], [1, 0, 2, 3]]
def Perms.sgen (k : Int) : List (List Int) := if k = 1 then Perms.tetra else if k = 2 then Perms.tetra.map Perms.pairAct else if k = 3 then [[0, 1, 4, 5, 3, 2], [2, 3, 1, 0, 4, 5], [1, 0, 2, 3, 4, 5]] else [Perms.corL Perms.corA 8, Perms.corL Perms.corB 8, Perms.corL Perms.corM 8]
def Perms.sgens (k : Int) (m : Bool) : List (List Int) := if m = true then Perms.sgen k else (Perms.sgen k).take 2
def Perms.solO (k : Int) (m : Bool) : Option (List (List Int)) := if 1 ≤ k ∧ k ≤ 4 then Perms.gofO (Nums.sdeg k) (Perms.sgens k m) else none
def Perms.solW (k : Int) (m : Bool) : List (List Int) := ((Perms.solO k m).map Perms.isort).getD []
def Perms.solB (k : Int) (m : Bool) : Bool := (Perms.solO k m).isSome
theorem lit_ints (w : World) (xs : List Int) (hn : xs.length ≤ 1000) : OwnInts (w.alloc (.cells (ints xs).toArray 3)) w.heap.size (.slice (some ⟨w.heap.size, 0, none⟩) xs.length xs.length) xs := by
  unfold OwnInts Own
  have h := World.ownsRow_lit (size := 1) w (e := 3) (ints xs).toArray xs.length (Nat.le_refl _) (by unfold maxLen; omega) (by simp [ints_len])
  have e : (ints xs).length = xs.length := ints_len xs
  rw [e]
  simpa using h
theorem lit_outer (w : World) (us : List Value) (hn : us.length ≤ 1000) : RowAt (w.alloc (.cells us.toArray 36)) (.slice (some ⟨w.heap.size, 0, none⟩) us.length us.length) us := by
  have h := World.ownsRow_lit (size := 1) w (e := 36) us.toArray us.length (Nat.le_refl _) (by unfold maxLen; omega) (by simp)
  have h2 : Own (w.alloc (.cells us.toArray 36)) w.heap.size 36 (.slice (some ⟨w.heap.size, 0, none⟩) us.length us.length) us := by
    unfold Own
    simpa using h
  exact Own.row h2
/-- A literal of three lists. -/
theorem lit_three (w : World) (x y z : List Int) (hx : x.length ≤ 1000) (hy : y.length ≤ 1000) (hz : z.length ≤ 1000) :
    RowsAt ((((w.alloc (.cells (ints x).toArray 3)).alloc (.cells (ints y).toArray 3)).alloc (.cells (ints z).toArray 3)).alloc (.cells #[.slice (some ⟨w.heap.size, 0, none⟩) x.length x.length, .slice (some ⟨w.heap.size + 1, 0, none⟩) y.length y.length, .slice (some ⟨w.heap.size + 1 + 1, 0, none⟩) z.length z.length] 36))
      (.slice (some ⟨w.heap.size + 1 + 1 + 1, 0, none⟩) 3 3) [x, y, z] := by
  have h1 := lit_ints w x hx
  have h2 := lit_ints (w.alloc (.cells (ints x).toArray 3)) y hy
  have h3 := lit_ints ((w.alloc (.cells (ints x).toArray 3)).alloc (.cells (ints y).toArray 3)) z hz
  have h4 := lit_outer (((w.alloc (.cells (ints x).toArray 3)).alloc (.cells (ints y).toArray 3)).alloc (.cells (ints z).toArray 3)) [.slice (some ⟨w.heap.size, 0, none⟩) x.length x.length, .slice (some ⟨w.heap.size + 1, 0, none⟩) y.length y.length, .slice (some ⟨w.heap.size + 1 + 1, 0, none⟩) z.length z.length] (by simp)
  rw [World.size_alloc] at h2
  rw [World.size_alloc, World.size_alloc] at h3
  rw [World.size_alloc, World.size_alloc, World.size_alloc] at h4
  refine ⟨_, h4, rfl, fun k xs hk => ?_⟩
  match k, hk with
  | 0, hk => cases hk; exact ⟨_, rfl, OwnInts.at (((OwnInts.below h1 (below_alloc _ _)).below (below_alloc _ _)).below (below_alloc _ _))⟩
  | 1, hk => cases hk; exact ⟨_, rfl, OwnInts.at ((OwnInts.below h2 (below_alloc _ _)).below (below_alloc _ _))⟩
  | 2, hk => cases hk; exact ⟨_, rfl, OwnInts.at (OwnInts.below h3 (below_alloc _ _))⟩
  | k + 3, hk => simp at hk
theorem below_three (w : World) (a b c d : Obj) : Below w.heap.size w ((((w.alloc a).alloc b).alloc c).alloc d) :=
  ((((below_alloc w a).alloc (below_alloc w a).size b).alloc (by simp; omega) c)).alloc (by simp; omega) d
set_option maxHeartbeats 1600000 in
theorem gens_one {w : World} {Q : Ending → World → Prop}
    (hQ : ∀ v w', RowsAt w' v (Perms.sgen 1) → Below w.heap.size w w' → Q (.returned v) w') :
    Calls Tryz.prog 26 #[.int .i64 1] w Q := by
  have H := Lib.hid hQ; clear hQ
  have h3 := Lib.hid (H.out _ _ (lit_three w [1, 2, 0, 3] [1, 0, 3, 2] [1, 0, 2, 3] (by simp) (by simp) (by simp)) (below_three w _ _ _ _))
  go_enter Tryz.func26, Tryz.ntmps26
  go_wp2_with fail
  exact h3.out
set_option maxHeartbeats 1600000 in
theorem gens_three {w : World} {Q : Ending → World → Prop}
    (hQ : ∀ v w', RowsAt w' v (Perms.sgen 3) → Below w.heap.size w w' → Q (.returned v) w') :
    Calls Tryz.prog 26 #[.int .i64 3] w Q := by
  have H := Lib.hid hQ; clear hQ
  have b4 := below_three w (.cells (ints [1, 2, 0, 3]).toArray 3) (.cells (ints [1, 0, 3, 2]).toArray 3) (.cells (ints [1, 0, 2, 3]).toArray 3) (.cells #[.slice (some ⟨w.heap.size, 0, none⟩) 4 4, .slice (some ⟨w.heap.size + 1, 0, none⟩) 4 4, .slice (some ⟨w.heap.size + 1 + 1, 0, none⟩) 4 4] 36)
  obtain ⟨W, hW⟩ : ∃ W, W = ((((w.alloc (.cells (ints [1, 2, 0, 3]).toArray 3)).alloc (.cells (ints [1, 0, 3, 2]).toArray 3)).alloc (.cells (ints [1, 0, 2, 3]).toArray 3)).alloc (.cells #[.slice (some ⟨w.heap.size, 0, none⟩) 4 4, .slice (some ⟨w.heap.size + 1, 0, none⟩) 4 4, .slice (some ⟨w.heap.size + 1 + 1, 0, none⟩) 4 4] 36)) := ⟨_, rfl⟩
  have hs : W.heap.size = w.heap.size + 1 + 1 + 1 + 1 := by rw [hW, World.size_alloc, World.size_alloc, World.size_alloc, World.size_alloc]
  rw [← hW] at b4
  have h := lit_three W [0, 1, 4, 5, 3, 2] [2, 3, 1, 0, 4, 5] [1, 0, 2, 3, 4, 5] (by simp) (by simp) (by simp)
  have h3 := H.out _ _ h (b4.trans (Below.mono (below_three W _ _ _ _) b4.size))
  rw [hs, hW] at h3
  have h4 := Lib.hid h3
  clear h h3 b4 hs hW W
  go_enter Tryz.func26, Tryz.ntmps26
  go_wp2_with fail
  exact h4.out
set_option maxHeartbeats 3200000 in
theorem gens_two {w : World} {Q : Ending → World → Prop}
    (hQ : ∀ v w', RowsAt w' v (Perms.sgen 2) → Below w.heap.size w w' → Q (.returned v) w') :
    Calls Tryz.prog 26 #[.int .i64 2] w Q := by
  have H := Lib.hid hQ; clear hQ
  have b4 := below_three w (.cells #[.int .i64 1, .int .i64 2, .int .i64 0, .int .i64 3] 3) (.cells #[.int .i64 1, .int .i64 0, .int .i64 3, .int .i64 2] 3) (.cells #[.int .i64 1, .int .i64 0, .int .i64 2, .int .i64 3] 3) (.cells #[.slice (some ⟨w.heap.size, 0, none⟩) 4 4, .slice (some ⟨w.heap.size + 1, 0, none⟩) 4 4, .slice (some ⟨w.heap.size + 1 + 1, 0, none⟩) 4 4] 36)
  have hF0 := lit_three w [1, 2, 0, 3] [1, 0, 3, 2] [1, 0, 2, 3] (by simp) (by simp) (by simp)
  go_enter Tryz.func26, Tryz.ntmps26
  go_wp2_with fail
  obtain ⟨W, hW⟩ : ∃ W, W = ((((w.alloc (.cells #[.int .i64 1, .int .i64 2, .int .i64 0, .int .i64 3] 3)).alloc (.cells #[.int .i64 1, .int .i64 0, .int .i64 3, .int .i64 2] 3)).alloc (.cells #[.int .i64 1, .int .i64 0, .int .i64 2, .int .i64 3] 3)).alloc (.cells #[.slice (some ⟨w.heap.size, 0, none⟩) 4 4, .slice (some ⟨w.heap.size + 1, 0, none⟩) 4 4, .slice (some ⟨w.heap.size + 1 + 1, 0, none⟩) 4 4] 36)) := ⟨_, rfl⟩
  have hs : W.heap.size = w.heap.size + 1 + 1 + 1 + 1 := by rw [hW, World.size_alloc, World.size_alloc, World.size_alloc, World.size_alloc]
  change RowsAt ((((w.alloc (.cells #[.int .i64 1, .int .i64 2, .int .i64 0, .int .i64 3] 3)).alloc (.cells #[.int .i64 1, .int .i64 0, .int .i64 3, .int .i64 2] 3)).alloc (.cells #[.int .i64 1, .int .i64 0, .int .i64 2, .int .i64 3] 3)).alloc (.cells #[.slice (some ⟨w.heap.size, 0, none⟩) 4 4, .slice (some ⟨w.heap.size + 1, 0, none⟩) 4 4, .slice (some ⟨w.heap.size + 1 + 1, 0, none⟩) 4 4] 36)) (.slice (some ⟨w.heap.size + 1 + 1 + 1, 0, none⟩) 3 3) Perms.tetra at hF0
  rw [← hW] at hF0 b4
  have hF := Lib.hid hF0
  have o0 := own_outer_empty W
  have ba0 := below_alloc W (.cells #[] 36)
  rw [hs] at o0
  have v0 : Vals (W.alloc (.cells #[] 36)) W.heap.size [] ((Perms.tetra.take 0).map Perms.pairAct) := ⟨rfl, fun k xs h => by simp at h⟩
  have v0' := Lib.hid v0
  have hten : Hid (∀ x ∈ Perms.tetra, Perms.inR 4 x ∧ Perms.permB x = true) := Lib.hid (by
    intro x hx
    simp only [Perms.tetra, List.mem_cons, List.not_mem_nil, or_false] at hx
    rcases hx with rfl | rfl | rfl
    · exact ⟨⟨rfl, by decide⟩, by decide⟩
    · exact ⟨⟨rfl, by decide⟩, by decide⟩
    · exact ⟨⟨rfl, by decide⟩, by decide⟩)
  obtain ⟨L, hL⟩ : ∃ L, L = Perms.tetra := ⟨_, rfl⟩
  have hLl : L.length ≤ 3 ∧ 3 ≤ L.length := by rw [hL]; decide
  rw [← hL] at hF hten v0'
  have hfin : Hid (Perms.sgen 2 = L.map Perms.pairAct) := Lib.hid (by rw [hL]; rfl)
  rw [← hW]
  clear hF0 hL v0 hW
  have hso : W.heap.size ≤ w.heap.size + 1 + 1 + 1 + 1 := by omega
  have o0' : Own (W.alloc (.cells #[] 36)) W.heap.size 36 (.slice (some ⟨w.heap.size + 1 + 1 + 1 + 1, 0, none⟩) 0 0) [] := o0.mono hso
  clear o0 hs hso
  go_loopg [4, 22] 3 (fun gg u4 u22 wr => ∃ (j : Nat) (us : List Value), u22 = .int .i64 j ∧ Own wr W.heap.size 36 u4 us ∧ Hid (Vals wr W.heap.size us ((L.take j).map Perms.pairAct)) ∧ Below W.heap.size W wr ∧ j + gg = 3)
  case atStart => exact ⟨0, [], rfl, o0', v0', ba0, rfl⟩
  case round =>
    obtain ⟨j, us, rfl, oj, vj, bj, hm⟩ := hrel
    obtain ⟨a4, c4, rfl, _, _, _⟩ := Own.form oj
    have hul : us.length ≤ 3 := by rw [vj.out.1, List.length_map, List.length_take]; omega
    by_cases hj : j < 3
    · have hjI : (j : Int) < 3 := by omega
      obtain ⟨b7, f7, u, x, e7, hx, hcx, hux⟩ := (hF.out.below bj).cell (k := j) (by omega)
      cases e7
      rw [Nat.zero_add] at hcx
      obtain ⟨ax, cx, rfl, _, _, _⟩ := hux.form
      have hux' := Lib.hid hux
      obtain ⟨hxR, hxO⟩ := hten.out x (List.mem_of_getElem? hx.out)
      have hxR' := Lib.hid hxR
      have hst : Hid ((L.take (j + 1)).map Perms.pairAct = (L.take j).map Perms.pairAct ++ [Perms.pairAct x]) := Lib.hid (by rw [List.take_add_one, hx.out, List.map_append]; rfl)
      clear hux hxR
      go_wp2_with fail
      refine PairAction_s hux'.out hxR'.out hxO ?_
      intro v3 w3 o3 b3
      obtain ⟨y, hy⟩ : ∃ y, y = Perms.pairAct x := ⟨_, rfl⟩
      rw [← hy] at o3 hst
      clear hy
      obtain ⟨a3, c3, rfl, _, _, _⟩ := Own.form o3
      have bj3 := bj.trans (b3.mono bj.size)
      have oj3 := Own.below (Own.below oj b3) (below_alloc w3 (.cells #[.slice a3 (ints y).length c3] 36))
      have hr3 := row_one w3 (.slice a3 (ints y).length c3) 36
      have ba3 := below_alloc w3 (.cells #[.slice a3 (ints y).length c3] 36)
      have bj4 := bj3.trans (ba3.mono bj3.size)
      have vj4 := Lib.hid (((vj.out.below b3).below ba3).push (OwnInts.mono (OwnInts.below o3 ba3) bj.size))
      have hone : Hid (∀ y' ∈ [Value.slice a3 (ints y).length c3], y'.oneCell' = true) := Lib.hid (fun y' hy' => by rw [List.mem_singleton] at hy'; rw [hy']; rfl)
      go_wp2_with (at_builtin; refine app_outer rfl (.tmp 31) (.tmp 33) rfl rfl oj3 rfl hr3 hone.out (by show us.length + 1 ≤ 1099511627776; omega) bj4.size ?_; intro v5 w5 o5 g5)
      have vj5 : Hid (Vals w5 W.heap.size (us ++ [.slice a3 (ints y).length c3]) ((L.take (j + 1)).map Perms.pairAct)) := Lib.hid (by rw [hst.out]; exact vj4.out.outer oj3 g5)
      have bj5 := bj4.grown g5 bj4.size (fun b hb => (Own.lt oj3 hb).1)
      go_roundg (gk - 1)
      case measure => omega
      case rel => exact ⟨j + 1, _, by go_num, o5, vj5, bj5, by omega⟩
    · obtain rfl : j = 3 := by omega
      have hR : RowsAt wr (.slice a4 us.length c4) (Perms.sgen 2) := by
        have h := vj.out.at oj
        rw [List.take_of_length_le (by omega), ← hfin.out] at h
        exact h
      have h3 := Lib.hid (H.out _ wr hR (b4.trans (bj.mono b4.size)))
      clear hR
      go_wp2_with fail
      exact h3.out
set_option maxHeartbeats 1600000 in
theorem gens_four {w : World} {Q : Ending → World → Prop}
    (hQ : ∀ v w', RowsAt w' v (Perms.sgen 4) → Below w.heap.size w w' → Q (.returned v) w') :
    Calls Tryz.prog 26 #[.int .i64 4] w Q := by
  have H := Lib.hid hQ; clear hQ
  have b4 := Lib.hid (below_three w (.cells (ints [1, 2, 0, 3]).toArray 3) (.cells (ints [1, 0, 3, 2]).toArray 3) (.cells (ints [1, 0, 2, 3]).toArray 3) (.cells #[.slice (some ⟨w.heap.size, 0, none⟩) 4 4, .slice (some ⟨w.heap.size + 1, 0, none⟩) 4 4, .slice (some ⟨w.heap.size + 1 + 1, 0, none⟩) 4 4] 36))
  go_enter Tryz.func26, Tryz.ntmps26
  go_wp2_with fail
  refine l10Corners_c ?_
  intro v5 w5 o5 b5
  have h3 := Lib.hid (H.out v5 w5 o5.at (b4.out.trans (b5.mono b4.out.size)))
  obtain ⟨a5, c5, rfl, _, _, _⟩ := o5.form
  go_wp2_with fail
  exact h3.out
theorem gens_c {k : Int} (hk : 1 ≤ k ∧ k ≤ 4) {w : World} {Q : Ending → World → Prop}
    (hQ : ∀ v w', RowsAt w' v (Perms.sgen k) → Below w.heap.size w w' → Q (.returned v) w') :
    Calls Tryz.prog 26 #[.int .i64 k] w Q := by
  obtain rfl | rfl | rfl | rfl : k = 1 ∨ k = 2 ∨ k = 3 ∨ k = 4 := by omega
  · exact gens_one hQ
  · exact gens_two hQ
  · exact gens_three hQ
  · exact gens_four hQ
theorem Perms.sgen_len (k : Int) : (Perms.sgen k).length = 3 := by
  unfold Perms.sgen
  split
  · rfl
  · split
    · rfl
    · split <;> rfl
set_option maxHeartbeats 1600000 in
theorem SolidGroup_s {k : Int} {m : Bool} {w : World} {Q : Ending → World → Prop}
    (hQ : ∀ v w', OwnRows w' w.heap.size w'.heap.size v (Perms.solW k m) → Below w.heap.size w w' → Q (.returned (.tuple #[v, .bool (Perms.solB k m)])) w') :
    Calls Tryz.prog 15 #[.int .i64 k, .bool m] w Q := by
  have H := Lib.hid hQ; clear hQ
  by_cases hk : 1 ≤ k ∧ k ≤ 4
  rotate_left
  · have h2 := H.out (.slice none 0 0) w (by unfold Perms.solW Perms.solO; rw [if_neg hk]; exact OwnRows.nil _ _ _) (Below.refl _ _)
    unfold Perms.solB Perms.solO at h2
    rw [if_neg hk] at h2
    have h3 := Lib.hid h2
    have hd : Hid (Nums.sdeg k = 0) := Lib.hid (by unfold Nums.sdeg; rw [if_neg (by omega), if_neg (by omega), if_neg (by omega), if_neg (by omega)])
    clear hk h2
    go_enter Tryz.func15, Tryz.ntmps15
    go_wp2_with fail
    refine SolidDegree_s ?_
    rw [hd.out]
    go_wp2_with fail
    exact h3.out
  have hso : Perms.solO k m = Perms.gofO (Nums.sdeg k) (Perms.sgens k m) := by unfold Perms.solO; rw [if_pos hk]
  have hW : Hid (Perms.solW k m = Perms.gofW (Nums.sdeg k) (Perms.sgens k m)) := Lib.hid (by unfold Perms.solW Perms.gofW; rw [hso])
  have hB : Hid (Perms.solB k m = Perms.gofB (Nums.sdeg k) (Perms.sgens k m)) := Lib.hid (by unfold Perms.solB Perms.gofB; rw [hso])
  have hd : 4 ≤ Nums.sdeg k ∧ Nums.sdeg k ≤ 8 := by
    obtain rfl | rfl | rfl | rfl : k = 1 ∨ k = 2 ∨ k = 3 ∨ k = 4 := by omega
    all_goals decide
  obtain ⟨d, hdd⟩ : ∃ d, d = Nums.sdeg k := ⟨_, rfl⟩
  rw [← hdd] at hd
  have hdd' := Lib.hid hdd
  obtain ⟨hd4, hd8⟩ := hd
  have hd0 : (d == 0) = false := by rw [beq_eq_false_iff_ne]; omega
  have hk' := Lib.hid hk
  clear hso hdd hk
  go_enter Tryz.func15, Tryz.ntmps15
  go_wp2_with fail
  refine SolidDegree_s ?_
  rw [← hdd'.out]
  go_wp2_with fail
  refine gens_c hk'.out ?_
  intro v1 w1 r1 b1
  obtain ⟨L, hL⟩ : ∃ L, L = Perms.sgen k := ⟨_, rfl⟩
  have hL3 : L.length ≤ 3 ∧ 3 ≤ L.length := by rw [hL, Perms.sgen_len]; omega
  rw [← hL] at r1
  have hL' := Lib.hid hL
  clear hL
  have r1' := Lib.hid r1
  obtain ⟨a1, c1, rfl, _, _, _⟩ := r1.form
  cases m with
  | true =>
    have hg : Hid (Perms.sgens k true = L) := Lib.hid (by unfold Perms.sgens; rw [if_pos rfl, hL'.out])
    clear r1
    go_wp2_with fail
    refine SolidDegree_s ?_
    rw [← hdd'.out]
    go_wp2_with fail
    refine GroupOf_s r1'.out ?_
    intro v3 w3 o3 b3
    rw [← hg.out, hdd'.out, ← hW.out] at o3
    have h2 := H.out v3 w3 (OwnRows.mono o3 b1.size (Nat.le_refl _)) (b1.trans (b3.mono b1.size))
    rw [hB.out, ← hdd'.out, hg.out] at h2
    have h3 := Lib.hid h2
    obtain ⟨a3, c3, rfl, _, _, _⟩ := o3.form
    clear h2
    go_wp2_with fail
    exact h3.out
  | false =>
    have hg : Hid (Perms.sgens k false = L.take 2) := Lib.hid (by unfold Perms.sgens; rw [if_neg (by decide), hL'.out])
    obtain ⟨vs, hv1, hv2, hv3⟩ := r1
    have r2 : RowsAt w1 (.slice a1 2 c1) (L.take 2) := by
      have hu := RowAt.upto hv1 (k := 2) (by omega)
      refine ⟨vs.take 2, hu, by simp; omega, fun q xs hq => ?_⟩
      rw [List.getElem?_take] at hq
      split at hq
      · rename_i h
        obtain ⟨u, h1, h2⟩ := hv3 q xs hq
        exact ⟨u, by rw [List.getElem?_take, if_pos h]; exact h1, h2⟩
      · cases hq
    have hlt : Hid ((L.take 2).length = 2) := Lib.hid (by rw [List.length_take]; omega)
    have r2' := Lib.hid r2
    have hc2 : 2 ≤ c1 := by omega
    clear hv1 hv2 hv3 r2
    go_wp2_with fail
    refine SolidDegree_s ?_
    rw [← hdd'.out]
    go_wp2_with fail
    refine GroupOf_s r2'.out ?_
    intro v3 w3 o3 b3
    rw [← hg.out, hdd'.out, ← hW.out] at o3
    have h2 := H.out v3 w3 (OwnRows.mono o3 b1.size (Nat.le_refl _)) (b1.trans (b3.mono b1.size))
    rw [hB.out, ← hdd'.out, hg.out] at h2
    have h3 := Lib.hid h2
    obtain ⟨a3, c3, rfl, _, _, _⟩ := o3.form
    clear h2
    go_wp2_with fail
    exact h3.out
end Go.Proofs.YtdjdagcgodpgdaaGreat
/- Sorting a slice of terms by their types: out of the library's contract at structs. -/
set_option linter.unusedVariables false
namespace Go.Proofs.YtdjdagcgodpgdaaGreat
open Go.RowKit

set_option maxHeartbeats 800000 in
theorem cmpClos_c {u1 u2 : Value} {c1 c2 : Int} {t1 t2 : List Int} {w : World} {Q : Ending → World → Prop} (h1 : IntsAt w u1 t1) (h2 : IntsAt w u2 t2)
    (hQ : ∀ q os, Q (.returned (.int .i64 (Words.cmpL t1 t2))) (Go.Sort.grow (w.drewN q) os)) :
    Calls Tryz.prog 51 #[.agg #[u1, .int .i64 c1], .agg #[u2, .int .i64 c2]] w Q := by
  have H := Lib.hid hQ; clear hQ
  have h10 := Lib.hid h1
  have h20 := Lib.hid h2
  obtain ⟨a1, k1, rfl, _, _, _⟩ := h1.form
  obtain ⟨a2, k2, rfl, _, _, _⟩ := h2.form
  have ba := below_alloc w (.cells #[.slice a1 t1.length k1, .int .i64 c1] 41)
  have bb := ba.trans ((below_alloc (w.alloc (.cells #[.slice a1 t1.length k1, .int .i64 c1] 41)) (.cells #[.slice a2 t2.length k2, .int .i64 c2] 41)).mono ba.size)
  have h11 := Lib.hid (h10.out.below bb)
  have h21 := Lib.hid (h20.out.below bb)
  have hfin := Lib.hid (H.out 0 #[.cells #[.slice a1 t1.length k1, .int .i64 c1] 41 (0, 0), .cells #[.slice a2 t2.length k2, .int .i64 c2] 41 (0, 0)])
  clear h1 h2
  go_enter Tryz.func51, Tryz.ntmps51
  go_wp2_with fail
  refine Compare_c h11.out h21.out ?_
  have e : (w.alloc (.cells #[.slice a1 t1.length k1, .int .i64 c1] 41)).alloc (.cells #[.slice a2 t2.length k2, .int .i64 c2] 41) = Go.Sort.grow (w.drewN 0) #[.cells #[.slice a1 t1.length k1, .int .i64 c1] 41 (0, 0), .cells #[.slice a2 t2.length k2, .int .i64 c2] 41 (0, 0)] := by
    rw [Go.Sort.alloc_eq_grow, Go.Sort.alloc_eq_grow, Go.Sort.grow_grow]
    rfl
  have hf2 := hfin.out
  rw [← e] at hf2
  have hf3 := Lib.hid hf2
  clear hf2 e
  go_wp2_with fail
  exact hf3.out
def pairAt (zs : List (Value × Int)) (i : Nat) : Value × Int := zs.getD i (nilV, 0)
theorem ownT_sortWorld {zs : List (Value × Int)} {w : World} {B g n cap : Nat} (h : OwnT w B (.slice (some ⟨g, 0, none⟩) n cap) zs) (m : Nat) (dk : Array Nat) (os : Array Obj) (hs : dk.size = n) :
    OwnT (sortWorldK (fun i => cellsT (pairAt zs i)) 2 w g 0 m dk os) B (.slice (some ⟨g, 0, none⟩) n cap) (dk.toList.map (pairAt zs)) := by
  have hn := h.len
  unfold OwnT at h ⊢
  rcases h.2 with ⟨he, _⟩ | ⟨g', cap', cur, he, hb, hgg, h1, h2, h3, h4⟩
  · cases he
  · simp only [Value.slice.injEq] at he
    obtain ⟨e1, _, rfl⟩ := he
    obtain rfl : g = g' := by simpa using e1
    have hlt : g < w.heap.size := (Array.getElem?_eq_some_iff.1 hgg).1
    have hlm : (dk.toList.map (pairAt zs)).length = n := by simp [hs]
    refine ⟨by rw [flatT_len], .inr ⟨g, cap, Go.Sort.putCells id 0 (Go.Sort.flatK (fun i => cellsT (pairAt zs i)) 2 dk) cur, by rw [hlm], hb, ?_, by rw [hlm]; omega, h2, by simp [Go.Sort.putCells, h3], ?_⟩⟩
    · unfold sortWorldK Go.Sort.putRowK
      rw [Go.Sort.heap_grow_old _ _ (by simp; exact hlt)]
      unfold Go.Sort.putRow Go.Sort.mapBlock
      rw [Array.getElem?_modify]
      simp [Go.Sort.ahead, hgg, Go.Sort.onCells]
    · rw [hlm]
      apply List.ext_getElem?
      intro i
      by_cases hi : i < n * 2
      · obtain ⟨x, hx⟩ : ∃ x, dk[i / 2]? = some x := ⟨_, Array.getElem?_eq_getElem (by omega)⟩
        have hxb : dk[i / 2]! = x := by rw [getElem!_pos dk (i / 2) (by omega)]; rw [Array.getElem?_eq_getElem (show i / 2 < dk.size by omega)] at hx; exact Option.some.inj hx
        have hm : (dk.toList.map (pairAt zs))[i / 2]? = some (pairAt zs x) := by rw [List.getElem?_map, Array.getElem?_toList, hx]; rfl
        have hf := flatT_get _ _ _ hm
        rw [List.getElem?_take, if_pos hi, Array.getElem?_toList]
        unfold Go.Sort.putCells
        rw [Array.getElem?_mapIdx, Array.getElem?_eq_getElem (show i < cur.size by omega), Option.map_some, if_pos ⟨by omega, by simp; omega⟩, Nat.sub_zero, Go.Sort.get_flatK _ _ _ _ (by omega), hxb]
        rcases Nat.mod_two_eq_zero_or_one i with hp | hp
        · rw [hp, show i = i / 2 * 2 by omega, hf.1]
          simp [cellsT]
        · rw [hp, show i = i / 2 * 2 + 1 by omega, hf.2]
          simp [cellsT]
      · rw [List.getElem?_eq_none (by simp; omega), List.getElem?_eq_none (by rw [flatT_len, hlm]; omega)]
set_option maxHeartbeats 1600000 in
theorem sortTerms_c {v : Value} {xs : List (List Int)} {cs : List Int} {w : World} {B E : Nat} {Q : Ending → World → Prop} (ho : OwnTerms w B E v xs cs) (hB : B ≤ w.heap.size) (hn : 0 < xs.length) (hbig : xs.length ≤ 1048576)
    (hQ : ∀ w' ys ds, ds.length = ys.length → (ys.zip ds).Perm (xs.zip cs) → Words.Sorted ys → OwnTerms w' B w'.heap.size v ys ds → Below B w w' → Q (.returned (.tuple #[])) w') :
    Calls Tryz.prog 50 #[v, .func (.func 51) #[] #[]] w Q := by
  obtain ⟨aa, ca, rfl, la, lca, cca⟩ := ho.form
  obtain ⟨h0, us, o1, o2, o3⟩ := ho
  have hus := o3.1
  have hzl : (us.zip cs).length = xs.length := by rw [List.length_zip, h0, hus, Nat.min_self]
  obtain ⟨g, rfl, hgB, hgl⟩ := o1.head (by omega)
  obtain ⟨zs, hzs⟩ : ∃ zs, zs = us.zip cs := ⟨_, rfl⟩
  have get : ∀ i, i < xs.length → ∃ u x c, us[i]? = some u ∧ xs[i]? = some x ∧ cs[i]? = some c ∧ pairAt zs i = (u, c) ∧ OwnInts w B u x := by
    intro i hi
    obtain ⟨u, x, hu, hx, hou, _⟩ := o3.get (k := i) hi
    have hc : cs[i]? = some cs[i] := List.getElem?_eq_getElem (by omega)
    refine ⟨u, x, cs[i], hu.out, hx.out, hc, ?_, hou⟩
    unfold pairAt
    rw [hzs]
    have : (us.zip cs)[i]? = some (u, cs[i]) := by rw [List.getElem?_zip_eq_some]; exact ⟨hu.out, hc⟩
    simp [List.getD, this]
  have out : ∀ i, xs.length ≤ i → pairAt zs i = (nilV, 0) := fun i hi => by
    unfold pairAt
    rw [hzs]
    simp [List.getD, List.getElem?_eq_none (show (us.zip cs).length ≤ i by omega)]
  have one : ∀ i, ∀ v ∈ cellsT (pairAt zs i), v.oneCell' = true := by
    intro i v hv
    by_cases hi : i < xs.length
    · obtain ⟨u, x, c, _, _, _, hp, hou⟩ := get i hi
      obtain ⟨au, cu, rfl, _, _, _⟩ := Own.form hou
      rw [hp] at hv
      simp [cellsT] at hv
      rcases hv with rfl | rfl <;> rfl
    · rw [out i (by omega)] at hv
      simp [cellsT, nilV] at hv
      rcases hv with rfl | rfl <;> rfl
  have hoth : ∀ (u : Value) (x : List Int), OwnInts w B u x → ∀ k, u.ownBlock = some k → k ≠ g := fun u x hou k hk e => by
    subst e
    obtain ⟨c1, e1⟩ := Own.block hou hk
    obtain ⟨c2, e2⟩ := o1.block rfl
    rw [e1] at e2
    simp only [Option.some.injEq, Obj.cells.injEq] at e2
    exact absurd e2.2.1 (by decide)
  have heap : ∀ (m : Nat) (os : Array Obj) (dk : Array Nat) (k : Nat), k < w.heap.size → k ≠ g → (sortWorldK (fun i => cellsT (pairAt zs i)) 2 w g 0 m dk os).heap[k]? = w.heap[k]? := fun m os dk k hk hne => heap_sortWorld id w g 0 m _ os hk hne
  have read : ∀ (m : Nat) (os : Array Obj) (dk : Array Nat) (i : Nat), IntsAt (sortWorldK (fun i => cellsT (pairAt zs i)) 2 w g 0 m dk os) (pairAt zs i).1 (xs.getD i []) := by
    intro m os dk i
    by_cases hi : i < xs.length
    · obtain ⟨u, x, c, _, hx, _, hp, hou⟩ := get i hi
      have e2 : xs.getD i [] = x := by simp [List.getD, hx]
      rw [hp, e2]
      exact OwnInts.at (Own.kept (B := B) hou fun k hk => heap m os dk k (Own.lt hou hk).2 (hoth u x hou k hk))
    · have e2 : xs.getD i [] = [] := by simp [List.getD, List.getElem?_eq_none (show xs.length ≤ i by omega)]
      rw [out i (by omega), e2]
      exact ⟨none, 0, rfl, Nat.le_refl _, by unfold maxLen; omega, fun _ => rfl, fun k x h => by simp [ints] at h⟩
  have hcmp : CmpLays Tryz.prog 51 #[] (fun i => cellsT (pairAt zs i)) 2 (fun i j => Words.cmpL (xs.getD i []) (xs.getD j [])) g 0 xs.length w := by
    intro m os dk hs x y
    exact cmpClos_c (c1 := (pairAt zs x).2) (c2 := (pairAt zs y).2) (read m os dk x) (read m os dk y) fun q os' => ⟨rfl, q, os', rfl⟩
  have hH : Go.Sort.HoldsK (fun i => cellsT (pairAt zs i)) 2 w g 0 (Array.range xs.length) := by
    intro j hj
    rw [Go.Sort.size_flatK, Array.size_range] at hj
    rw [Nat.zero_add, Go.Sort.get_flatK _ _ _ _ (by rw [Array.size_range]; exact hj), getElem!_pos _ (j / 2) (by rw [Array.size_range]; omega)]
    obtain ⟨u, x, c, hu, hx, hc, hp, hou⟩ := get (j / 2) (by omega)
    have hz : zs[j / 2]? = some (u, c) := by rw [hzs, List.getElem?_zip_eq_some]; exact ⟨hu, hc⟩
    rw [← hzs] at o1
    obtain ⟨c1, c2⟩ := o1.cells hz
    refine ⟨?_, o1.frozen j⟩
    simp only [Array.getElem_range]
    rw [hp]
    rcases Nat.mod_two_eq_zero_or_one j with hq | hq
    · rw [hq]
      rw [show j / 2 * 2 = j by omega] at c1
      rw [c1]; simp [cellsT]
    · rw [hq]
      rw [show j / 2 * 2 + 1 = j by omega] at c2
      rw [c2]; simp [cellsT]
  have hc := AnyQ.slices_SortFunc Tryz.sortTerms 2 Tryz.isAgg41 Tryz.sizeOf41 (fun i => cellsT (pairAt zs i)) (fun x => rfl) one (fun i j => Words.cmpL (xs.getD i []) (xs.getD j [])) (Words.cmpL_swo xs) 51 #[] g 0 ca (Array.range xs.length) w
    (fun args w => enters_of Tryz.func51 (by kernel_rfl) rfl args w) (by rw [Array.size_range]; exact hcmp) hH hgl (by rw [Array.size_range]; omega)
  rw [Array.size_range] at hc
  refine hc.mono ?_
  rintro e w' ⟨rfl, d', m, os, hp, hs, rfl⟩
  obtain ⟨hp1, hp2, hp3⟩ := hp
  rw [Array.size_range] at hp1
  have hpl : d'.toList.Perm (List.range xs.length) := by
    have h1 : d'.extract 0 xs.length = d' := by rw [← hp1]; simp
    have h2 : (Array.range xs.length).extract 0 xs.length = Array.range xs.length := by
      conv => lhs; arg 3; rw [← Array.size_range (n := xs.length)]
      simp
    rw [h1, h2] at hp3
    simpa using hp3
  have hnd : d'.toList.Nodup := hpl.nodup_iff.2 List.nodup_range
  have hlt : ∀ i ∈ d'.toList, i < xs.length := fun i hi => List.mem_range.1 (hpl.mem_iff.1 hi)
  have hzip : (d'.toList.map fun i => xs.getD i []).zip (d'.toList.map fun i => cs.getD i 0) = d'.toList.map fun i => (xs.zip cs).getD i ([], 0) := by
    rw [List.zip_map']
    refine List.map_congr_left fun i hi => ?_
    have hi := hlt i hi
    have a : xs[i]? = some xs[i] := List.getElem?_eq_getElem hi
    have b : cs[i]? = some cs[i] := List.getElem?_eq_getElem (by omega)
    have c : (xs.zip cs)[i]? = some (xs[i], cs[i]) := by rw [List.getElem?_zip_eq_some]; exact ⟨a, b⟩
    simp [List.getD, a, b, c]
  have hxzl : (xs.zip cs).length = xs.length := by rw [List.length_zip, h0, Nat.min_self]
  refine hQ _ (d'.toList.map fun i => xs.getD i []) (d'.toList.map fun i => cs.getD i 0) (by simp) ?_ ?_ ?_ (below_sortWorld id hB hgB _ _ _ _)
  · rw [hzip]
    have := hpl.map fun i => (xs.zip cs).getD i ([], 0)
    rw [← hxzl] at this
    rwa [map_range_getD] at this
  · unfold Words.Sorted
    rw [List.pairwise_map, List.pairwise_iff_getElem]
    intro i j h1 h2 hij
    have := hs i j (Nat.zero_le _) hij (by simp at h2; omega)
    unfold ltOf at this
    rw [decide_eq_false_iff_not] at this
    rw [getElem!_pos d' i (by simpa using h1), getElem!_pos d' j (by simpa using h2)] at this
    simpa using this
  · rw [← hzs] at o1
    have ow := ownT_sortWorld o1 m d' os hp1
    have rw1 : Rows (sortWorldK (fun i => cellsT (pairAt zs i)) 2 w g 0 m d' os) B E us xs := by
      refine ⟨o3.1, fun k x hk => ?_, o3.2.2⟩
      obtain ⟨u, a, b, c⟩ := o3.2.1 k x hk
      exact ⟨u, a, Own.kept b fun q hq => heap m os d' q (Own.lt b hq).2 (hoth u x b q hq), c⟩
    have rw2 := (rw1.perm hnd hlt).tight
    refine ⟨by simp, d'.toList.map fun i => us.getD i nilV, ?_, inB_lt ow, rw2⟩
    have ez : (d'.toList.map fun i => us.getD i nilV).zip (d'.toList.map fun i => cs.getD i 0) = d'.toList.map (pairAt zs) := by
      rw [List.zip_map']
      refine List.map_congr_left fun i hi => ?_
      obtain ⟨u, x, c, hu, hx, hc, hp, hou⟩ := get i (hlt i hi)
      rw [hp]
      simp [List.getD, hu, hc]
    rw [ez]
    exact ow
end Go.Proofs.YtdjdagcgodpgdaaGreat
/- The cycle index, as the program makes it. -/
set_option linter.unusedVariables false
namespace Go.Proofs.YtdjdagcgodpgdaaGreat
open Go.RowKit

theorem OwnTerms.count {w : World} {B E : Nat} {g n cap : Nat} {xs : List (List Int)} {cs : List Int} (h : OwnTerms w B E (.slice (some ⟨g, 0, none⟩) n cap) xs cs) {k : Nat} {c : Int} (hk : cs[k]? = some c) (d : Int) :
    OwnTerms (w.setCell ⟨g, k * 2 + 1, none⟩ (.int .i64 d)) B E (.slice (some ⟨g, 0, none⟩) n cap) xs (cs.set k d) := by
  obtain ⟨h0, us, h1, h2, h3⟩ := h
  have hkl := (List.getElem?_eq_some_iff.1 hk).1
  obtain ⟨u, hu⟩ : ∃ u, us[k]? = some u := ⟨_, List.getElem?_eq_getElem (show k < us.length by have := h3.1; omega)⟩
  have hz : (us.zip cs)[k]? = some (u, c) := by rw [List.getElem?_zip_eq_some]; exact ⟨hu, hk⟩
  refine ⟨by rw [List.length_set]; exact h0, us, ?_, h2, h3.outerT h1 (grown_set w g _ _)⟩
  have := h1.setCount hz d
  have e : (us.zip cs).set k (u, d) = us.zip (cs.set k d) := by
    apply List.ext_getElem?
    intro i
    rw [List.getElem?_set]
    by_cases e : k = i
    · subst e
      rw [if_pos rfl, if_pos (by rw [List.length_zip, h0, h3.1]; omega)]
      symm
      rw [List.getElem?_zip_eq_some]
      exact ⟨hu, by rw [List.getElem?_set, if_pos rfl, if_pos hkl]⟩
    · rw [if_neg e]
      have e2 : (cs.set k d)[i]? = cs[i]? := by rw [List.getElem?_set, if_neg e]
      rw [List.zip_eq_zipWith, List.zip_eq_zipWith, List.getElem?_zipWith, List.getElem?_zipWith, e2]
  rwa [e] at this
theorem box_new (w : World) (v : Value) (T : TypeId) : BoxAt (w.alloc (.cells #[v] T)) w.heap.size T v := by
  unfold BoxAt
  show (Array.push w.heap _)[w.heap.size]? = _
  rw [Array.getElem?_push_size]
/-- One more term, of a new row. -/
theorem OwnTerms.push {w w' : World} {B E : Nat} {v v' u : Value} {us : List Value} {xs : List (List Int)} {cs : List Int} {t : List Int} {c : Int} (h0 : cs.length = xs.length) (h1 : OwnT w B v (us.zip cs)) (h3 : Rows w B E us xs) (hu : OwnInts w B u t) (hf : ∀ b, u.ownBlock = some b → E ≤ b)
    (o1 : OwnT w' B v' (us.zip cs ++ [(u, c)])) (hg : w.grownBy w' v.ownBlock) : OwnTerms w' B w'.heap.size v' (xs ++ [t]) (cs ++ [c]) := by
  have hl : cs.length = us.length := by have := h3.1; omega
  have r1 := (h3.push hu hf).outerT h1 hg
  have ez : us.zip cs ++ [(u, c)] = (us ++ [u]).zip (cs ++ [c]) := by rw [List.zip_append hl.symm]; rfl
  rw [ez] at o1
  exact ⟨by simp [h0], us ++ [u], o1, inB_lt o1, r1.mono (Nat.le_refl _) hg.size⟩
theorem term_lit (w : World) (v : Value) (c : Int) : ∀ j u, ([(v, c)].flatMap cellsT)[j]? = some u → (w.alloc (.cells #[v, .int .i64 c] 41)).cell? (Addr.add ⟨w.heap.size, 0, none⟩ j) = some u := by
  intro j u hj
  rw [addr_add, Nat.zero_add]
  have hh : (w.alloc (.cells #[v, .int .i64 c] 41)).heap[w.heap.size]? = some (.cells #[v, .int .i64 c] 41 (0, 0)) := by
    show (Array.push w.heap _)[w.heap.size]? = _
    rw [Array.getElem?_push_size]
  match j, hj with
  | 0, hj => simp [cellsT] at hj; subst hj; simp only [World.cell?]; rw [hh]; rfl
  | 1, hj => simp [cellsT] at hj; subst hj; simp only [World.cell?]; rw [hh]; rfl
  | j + 2, hj => simp [cellsT] at hj
set_option maxHeartbeats 3200000 in
theorem CycleIndex_i {vg : Value} {g xs : List (List Int)} {cs : List Int} {w : World} {Q : Ending → World → Prop} (hg : RowsAt w vg g) (hok : Perms.grpB g = true) (hcn : ∀ p ∈ g, Perms.cycN p) (hS : Perms.Sorts g xs cs) (hx : 0 < xs.length)
    (hQ : ∀ v w', OwnTerms w' w.heap.size w'.heap.size v xs cs → Below w.heap.size w w' → Q (.returned v) w') :
    Calls Tryz.prog 23 #[vg] w Q := by
  have H := Lib.hid hQ; clear hQ
  have hg0 := Lib.hid hg
  obtain ⟨ag, cg, rfl, lg, lcg, ccg⟩ := hg.form
  clear hg
  obtain ⟨hl1, hl2, _, _⟩ := Perms.grpB_parts hok
  have hok' := Lib.hid hok
  have hG := Lib.hid (Perms.grpB_grp hok)
  have hcn' := Lib.hid hcn
  have hS' := Lib.hid hS
  have hbz := below_alloc w (.cells #[] 41)
  have o0 : OwnTerms (w.alloc (.cells #[] 41)) w.heap.size (w.alloc (.cells #[] 41)).heap.size (.slice (some ⟨w.heap.size, 0, none⟩) 0 0) [] [] := ⟨rfl, [], ownT_empty w, inB_lt (ownT_empty w), Rows.nil _ _ _⟩
  clear hok hcn hS
  go_enter Tryz.func23, Tryz.ntmps23
  go_wp2_with fail
  refine GroupOk_i (hg0.out.below hbz) ?_
  intro w1 b1
  rw [hok'.out]
  have b01 := hbz.trans (b1.mono hbz.size)
  have o1 := (o0.below b1).mono (Nat.le_refl _) b1.size
  go_wp2_with fail
  go_loopg [3, 15] g.length (fun gg u3 u15 wr => ∃ (j : Nat), u15 = .int .i64 j ∧ OwnTerms wr w.heap.size wr.heap.size u3 (Perms.ciTo g j).1 (Perms.ciTo g j).2 ∧ Below w.heap.size w wr ∧ j + gg ≤ g.length ∧ g.length ≤ j + gg)
  case atStart => exact ⟨0, rfl, o1, b01, by omega, by omega⟩
  case round =>
    obtain ⟨j, rfl, oj, bj, hj1, hj2⟩ := hrel
    obtain ⟨hlen, hlj, hcb⟩ := Perms.ciTo_len g j
    by_cases hj : j < g.length
    · have hjI : (j : Int) < g.length := by omega
      obtain ⟨b7, f7, u, p, e7, hp, hcp, hup⟩ := (hg0.out.below bj).cell hj
      cases e7
      have hpm := List.mem_of_getElem? hp.out
      have hpb := Lib.hid (hG.out.perm p hpm)
      have hpc := Lib.hid (hcn'.out p hpm)
      have hpl := Perms.permB_len hpb.out
      obtain ⟨t, ht⟩ : ∃ t, t = Perms.cyt p := ⟨_, rfl⟩
      obtain ⟨X, hX⟩ : ∃ X, X = (Perms.ciTo g j).1 := ⟨_, rfl⟩
      obtain ⟨C, hC⟩ : ∃ C, C = (Perms.ciTo g j).2 := ⟨_, rfl⟩
      have hs1 : Hid ((Perms.ciTo g (j + 1)).1 = Perms.addX X t) := Lib.hid (by
        have e : g.getD j [] = p := by simp [List.getD, hp.out]
        rw [hX, ht, Perms.ciTo, e])
      have hs2 : Hid ((Perms.ciTo g (j + 1)).2 = Perms.addC X C t) := Lib.hid (by
        have e : g.getD j [] = p := by simp [List.getD, hp.out]
        rw [hX, hC, ht, Perms.ciTo, e])
      have htl : t.length ≤ 10 := by rw [ht, Perms.cyt_len]; omega
      rw [← hX] at oj hlen hlj
      rw [← hC] at oj hlen hcb
      have ht' := Lib.hid ht
      obtain ⟨ap, cp, rfl, _, _, _⟩ := hup.form
      have hup' := Lib.hid hup
      obtain ⟨a3, c3, rfl, _, _, _⟩ := oj.form
      clear hup hpm ht hX hC
      go_wp2_with fail
      refine CycleType_i hup'.out hpb.out hpc.out ?_
      intro v2 w2 o2 b2
      rw [← ht'.out] at o2
      obtain ⟨a2, k2, rfl, _, _, _⟩ := Own.form o2
      rw [ints_len] at o2 ⊢
      go_wp2_with fail
      have hbx := box_new w2 (.slice a2 t.length k2) 36
      have ba := below_alloc w2 (.cells #[.slice a2 t.length k2] 36)
      have b2a := b2.trans (ba.mono b2.size)
      have oja := Lib.hid (oj.below b2a)
      have hta := Lib.hid (OwnInts.at (OwnInts.below o2 ba))
      refine findT_c oja.out hbx hta.out ?_
      intro w3 b3
      have b23 := b2a.trans (b3.mono b2a.size)
      have oj3 := oj.below b23
      have bj3 := bj.trans (b23.mono bj.size)
      have o23 := OwnInts.below o2 (ba.trans (b3.mono ba.size))
      have hbx3 := (hbx.below b3).cell
      have hbf3 := (hbx.below b3).frozen
      clear hbx
      by_cases hm : t ∈ X
      · obtain ⟨i, hi⟩ : ∃ i, i = X.idxOf t := ⟨_, rfl⟩
        have hil : i < X.length := by rw [hi]; exact List.idxOf_lt_length_iff.2 hm
        have hix : Perms.idx X t = (i : Int) := by unfold Perms.idx; rw [if_pos hm, hi]
        obtain ⟨g0, uu, x, c, e0, hx0, hc0, hc1, hc2, _, hfr⟩ := oj3.cell hil
        cases e0
        have hcbd := hcb c (List.mem_of_getElem? hc0.out)
        have hiI : (i : Int) < X.length := by omega
        have hcnt := oj3.count hc0.out (c + 1)
        have hA1 : Hid (Perms.addX X t = X) := Lib.hid (by unfold Perms.addX; rw [if_pos hm])
        have hA2 : Hid (Perms.addC X C t = C.set i (c + 1)) := Lib.hid (by
          unfold Perms.addC
          rw [if_pos hm, ← hi]
          have : C.getD i 0 = c := by simp [List.getD, hc0.out]
          rw [this])
        have hgs := grown_set w3 g0 (i * 2 + 1) (.int .i64 (c + 1))
        have hg0B : w.heap.size ≤ g0 := by
          obtain ⟨_, us, h1, _, _⟩ := oj3
          exact (h1.lt rfl).1
        have bjs := bj3.grown hgs bj3.size (fun b hb => by cases hb; exact hg0B)
        have hfr1 := hfr (i * 2 + 1)
        have hcnt' := Lib.hid (hcnt.mono (Nat.le_refl _) (show wr.heap.size ≤ (w3.setCell ⟨g0, i * 2 + 1, none⟩ (.int .i64 (c + 1))).heap.size from Nat.le_trans b23.size hgs.size))
        rw [hix]
        clear hcnt hi hix hfr hm hlen hcb
        go_wp2_with fail
        go_roundg (gk - 1)
        case measure => omega
        case rel => exact ⟨j + 1, by go_num, by rw [hs1.out, hs2.out, hA1.out, hA2.out]; exact hcnt'.out, bjs, by omega, by omega⟩
      · have hix : Perms.idx X t = -1 := by unfold Perms.idx; rw [if_neg hm]
        have hA1 : Hid (Perms.addX X t = X ++ [t]) := Lib.hid (by unfold Perms.addX; rw [if_neg hm])
        have hA2 : Hid (Perms.addC X C t = C ++ [1]) := Lib.hid (by unfold Perms.addC; rw [if_neg hm])
        rw [hix]
        obtain ⟨h0, us, o3, i3, r3⟩ := oj3
        have bal := below_alloc w3 (.cells #[.slice a2 t.length k2, .int .i64 1] 41)
        have bj4 := bj3.trans (bal.mono bj3.size)
        have o4 := o3.below bal
        have r4 := r3.below bal
        have hu4 := OwnInts.mono (OwnInts.below o23 bal) bj.size
        have hzl : (us.zip C).length ≤ 1000 := by rw [List.length_zip]; omega
        clear hix hm hcb
        go_wp2_with (at_builtin; go_loud (refine appT (ts := [(.slice a2 t.length k2, 1)]) rfl (.tmp 26) (.tmp 29) rfl rfl o4 rfl rfl (term_lit w3 _ 1) (fun t ht => by rw [List.mem_singleton] at ht; subst ht; rfl) (by simp; omega) bj4.size ?_); intro v5 w5 o5 g5)
        have hp5 := Lib.hid (OwnTerms.push h0 o4 r4 hu4 (fun b hb => (Own.lt o2 hb).1) o5 g5)
        have bj5 := bj4.grown g5 bj4.size (fun b hb => (o4.lt hb).1)
        go_roundg (gk - 1)
        case measure => omega
        case rel => exact ⟨j + 1, by go_num, by rw [hs1.out, hs2.out, hA1.out, hA2.out]; exact hp5.out, bj5, by omega, by omega⟩
    · obtain rfl : j = g.length := by omega
      have hXl : (Perms.ciTo g g.length).1.length = xs.length := by
        have := hS'.out.perm.length_eq
        rw [List.length_zip, List.length_zip, hS'.out.len, hlen] at this
        omega
      obtain ⟨a3, c3, rfl, _, _, _⟩ := oj.form
      have oj' := Lib.hid oj
      rw [hXl]
      have oj2 : Hid (OwnTerms wr w.heap.size wr.heap.size (.slice a3 xs.length c3) (Perms.ciTo g g.length).1 (Perms.ciTo g g.length).2) := Lib.hid (by rw [← hXl]; exact oj)
      have hXp : 0 < (Perms.ciTo g g.length).1.length := by omega
      have hXb : (Perms.ciTo g g.length).1.length ≤ 1048576 := by omega
      clear oj hXl
      go_wp2_with fail
      refine sortTerms_c oj2.out bj.size hXp hXb ?_
      intro w6 ys ds hl hp hs o6 b6
      obtain ⟨rfl, rfl⟩ := hS'.out.uniq hl hp hs
      have h3 := Lib.hid (H.out _ w6 o6 (bj.trans b6))
      go_wp2_with fail
      exact h3.out
end Go.Proofs.YtdjdagcgodpgdaaGreat
/- The cycle index, as the reference makes it. -/
set_option linter.unusedVariables false
namespace Go.Proofs.YtdjdagcgodpgdaaGreat
open Go.RowKit

def Perms.ltT (xs : List (List Int)) (t : List Int) : Nat := (xs.takeWhile fun y => decide (Words.cmpL y t < 0)).length
theorem Perms.ltT_at {xs : List (List Int)} {t : List Int} {i : Nat} (hi : i ≤ xs.length) (h1 : ∀ (k : Nat) y, k < i → xs[k]? = some y → Words.cmpL y t < 0) (h2 : ∀ y, xs[i]? = some y → ¬ Words.cmpL y t < 0) : Perms.ltT xs t = i := by
  unfold Perms.ltT
  have e : xs = xs.take i ++ xs.drop i := (List.take_append_drop i xs).symm
  have hall : ∀ y ∈ xs.take i, decide (Words.cmpL y t < 0) = true := fun y hy => by
    obtain ⟨k, hk, e⟩ := List.mem_iff_getElem.1 hy
    rw [List.length_take] at hk
    rw [List.getElem_take] at e
    exact decide_eq_true (h1 k y (by omega) (by rw [List.getElem?_eq_getElem (by omega), e]))
  rw [e, List.takeWhile_append_of_pos hall]
  have hd : (xs.drop i).takeWhile (fun y => decide (Words.cmpL y t < 0)) = [] := by
    cases hx : xs.drop i with
    | nil => rfl
    | cons y l =>
      have hy : xs[i]? = some y := by
        have := congrArg (fun l => l[0]?) hx
        simpa [List.getElem?_drop] using this
      rw [List.takeWhile_cons, if_neg (by rw [decide_eq_true_eq]; exact h2 y hy)]
  rw [hd, List.append_nil, List.length_take]
  omega
def Perms.spX (xs : List (List Int)) (t : List Int) : List (List Int) := if xs[Perms.ltT xs t]? = some t then xs else (xs.take (Perms.ltT xs t) ++ [t]) ++ xs.drop (Perms.ltT xs t)
def Perms.spC (xs : List (List Int)) (cs : List Int) (t : List Int) : List Int := if xs[Perms.ltT xs t]? = some t then cs.set (Perms.ltT xs t) (cs.getD (Perms.ltT xs t) 0 + 1) else (cs.take (Perms.ltT xs t) ++ [1]) ++ cs.drop (Perms.ltT xs t)
def Perms.spTo (g : List (List Int)) : Nat → List (List Int) × List Int
  | 0 => ([], [])
  | j + 1 => (Perms.spX (Perms.spTo g j).1 (Perms.cyt (g.getD j [])), Perms.spC (Perms.spTo g j).1 (Perms.spTo g j).2 (Perms.cyt (g.getD j [])))
theorem Perms.ltT_le (xs : List (List Int)) (t : List Int) : Perms.ltT xs t ≤ xs.length := by
  unfold Perms.ltT
  exact (List.takeWhile_sublist _).length_le
theorem Perms.spTo_len (g : List (List Int)) {n : Nat} (hg : ∀ p ∈ g, p.length = n) : ∀ j, j ≤ g.length → (Perms.spTo g j).2.length = (Perms.spTo g j).1.length ∧ (Perms.spTo g j).1.length ≤ j ∧ (∀ c ∈ (Perms.spTo g j).2, 0 ≤ c ∧ c ≤ j) ∧ ∀ x ∈ (Perms.spTo g j).1, x.length = n
  | 0, _ => ⟨rfl, Nat.le_refl _, (fun c h => by cases h), (fun x h => by cases h)⟩
  | j + 1, hj => by
    obtain ⟨h1, h2, h3, h4⟩ := Perms.spTo_len g hg j (by omega)
    have hle := Perms.ltT_le (Perms.spTo g j).1 (Perms.cyt (g.getD j []))
    simp only [Perms.spTo, Perms.spX, Perms.spC]
    split
    · rename_i hm
      have hlt := (List.getElem?_eq_some_iff.1 hm).1
      refine ⟨by rw [List.length_set, h1], by omega, fun c hc => ?_, h4⟩
      rcases List.mem_or_eq_of_mem_set hc with h | h
      · have := h3 c h; omega
      · rw [Perms.getD_get (by omega)] at h
        have := h3 _ (List.getElem_mem (show Perms.ltT (Perms.spTo g j).1 (Perms.cyt (g.getD j [])) < (Perms.spTo g j).2.length by omega))
        omega
    · have e : g.getD j [] = g[j] := by simp [List.getD, List.getElem?_eq_getElem (show j < g.length by omega)]
      refine ⟨by simp only [List.length_append, List.length_take, List.length_drop, List.length_cons, List.length_nil]; omega, by simp only [List.length_append, List.length_take, List.length_drop, List.length_cons, List.length_nil]; omega, fun c hc => ?_, fun x hx => ?_⟩
      · rcases List.mem_append.1 hc with h | h
        · rcases List.mem_append.1 h with h | h
          · have := h3 c (List.mem_of_mem_take h); omega
          · rw [List.mem_singleton] at h; omega
        · have := h3 c (List.mem_of_mem_drop h); omega
      · rcases List.mem_append.1 hx with h | h
        · rcases List.mem_append.1 h with h | h
          · exact h4 x (List.mem_of_mem_take h)
          · rw [List.mem_singleton] at h
            rw [h, Perms.cyt_len, e]
            exact hg _ (List.getElem_mem _)
        · exact h4 x (List.mem_of_mem_drop h)
theorem OwnT.run {w : World} {B : Nat} {g n cap : Nat} {us : List (Value × Int)} (h : OwnT w B (.slice (some ⟨g, 0, none⟩) n cap) us) {m : Nat} {u : Value} (hu : (us.flatMap cellsT)[m]? = some u) : w.cell? ⟨g, m, none⟩ = some u := by
  have hm : m < us.length * 2 := by have := (List.getElem?_eq_some_iff.1 hu).1; rwa [flatT_len] at this
  rcases h.2 with ⟨he, h2⟩ | ⟨g', cap', cur, he, h1, h2, h3, h4, h5, h6⟩
  · cases he
  · simp only [Value.slice.injEq] at he
    obtain ⟨e1, _, rfl⟩ := he
    obtain rfl : g = g' := by simpa using e1
    rw [← hu, ← h6, List.getElem?_take, if_pos hm]
    simp [World.cell?, h2]
theorem zip_ins {us : List Value} {cs : List Int} (h : cs.length = us.length) (u : Value) (c : Int) (i : Nat) : ((us.take i ++ [u]) ++ us.drop i).zip ((cs.take i ++ [c]) ++ cs.drop i) = ((us.zip cs).take i ++ [(u, c)]) ++ (us.zip cs).drop i := by
  rw [List.zip_append (by simp [h]), List.zip_append (by simp [h])]
  congr 1
  · congr 1
    rw [List.zip_eq_zipWith, List.zip_eq_zipWith, List.take_zipWith]
  · rw [List.zip_eq_zipWith, List.zip_eq_zipWith, List.drop_zipWith]
def insAt {α : Type} (l : List α) (x : α) (i : Nat) : List α := (l.take i ++ [x]) ++ l.drop i
theorem OwnTerms.inserted {w2 w8 : World} {B E : Nat} {v8 u : Value} {us : List Value} {X : List (List Int)} {C t : List Int} {i : Nat} (h0 : C.length = X.length) (r3 : Rows w2 B E us X) (o2 : OwnInts w2 E u t) (hBE : B ≤ E) (hB : B ≤ w2.heap.size) (hi : i ≤ X.length) (b : Below w2.heap.size w2 w8)
    (o8 : OwnT w8 w2.heap.size v8 (((us.zip C).take i ++ [(u, 1)]) ++ (us.zip C).drop i)) :
    ∃ g8 c8, v8 = .slice (some ⟨g8, 0, none⟩) (insAt X t i).length c8 ∧ OwnTerms w8 B w8.heap.size (.slice (some ⟨g8, 0, none⟩) (insAt X t i).length c8) (insAt X t i) (insAt C 1 i) := by
  unfold insAt
  have hul : us.length = X.length := r3.1
  obtain ⟨a8, c8, rfl, _, _, _⟩ := o8.form
  have hlen : (((us.zip C).take i ++ [(u, (1 : Int))]) ++ (us.zip C).drop i).length = (insAt X t i).length := by
    simp only [insAt, List.length_append, List.length_take, List.length_drop, List.length_cons, List.length_nil, List.length_zip]
    omega
  obtain ⟨g8, rfl, _, _⟩ := o8.head (by simp; omega)
  rw [hlen] at o8 ⊢
  have r4 := r3.ins (Own.mono o2 hBE) (fun q hq => (Own.lt o2 hq).1) hi
  have r5 := (r4.below b).mono (Nat.le_refl B) b.size
  refine ⟨g8, c8, rfl, ?_, _, ?_, ?_, r5⟩
  · simp only [List.length_append, List.length_take, List.length_drop, List.length_cons, List.length_nil]
    omega
  · rw [zip_ins (by omega)]
    exact o8.mono hB
  · exact fun q hq => (o8.lt hq).2
theorem CycleIndex_none {vg : Value} {g : List (List Int)} {w : World} {Q : Ending → World → Prop} (hg : RowsAt w vg g) (hok : Perms.grpB g = false)
    (hQ : ∀ w', Below w.heap.size w w' → Q (.returned (.slice none 0 0)) w') :
    Calls Tryz.prog 22 #[vg] w Q := by
  have H := Lib.hid hQ; clear hQ
  have hg0 := Lib.hid hg
  obtain ⟨ag, cg, rfl, lg, lcg, ccg⟩ := hg.form
  have hok' := Lib.hid hok
  clear hg hok
  go_enter Tryz.func22, Tryz.ntmps22
  go_wp2_with fail
  refine GroupOk_s hg0.out ?_
  intro w1 b1
  rw [hok'.out]
  have h3 := Lib.hid (H.out w1 b1)
  go_wp2_with fail
  exact h3.out
set_option maxHeartbeats 6400000 in
set_option maxRecDepth 60000 in
theorem CycleIndex_s {vg : Value} {g : List (List Int)} {n : Nat} {w : World} {Q : Ending → World → Prop} (hg : RowsAt w vg g) (hok : Perms.grpB g = true) (hn : (Perms.row0 g).length = n) (hcn : ∀ p ∈ g, Perms.cycN p)
    (hQ : ∀ v w', OwnTerms w' w.heap.size w'.heap.size v (Perms.spTo g g.length).1 (Perms.spTo g g.length).2 → Below w.heap.size w w' → Q (.returned v) w') :
    Calls Tryz.prog 22 #[vg] w Q := by
  have H := Lib.hid hQ; clear hQ
  have hg0 := Lib.hid hg
  obtain ⟨ag, cg, rfl, lg, lcg, ccg⟩ := hg.form
  clear hg
  obtain ⟨hl1, hl2, _, _⟩ := Perms.grpB_parts hok
  have hok' := Lib.hid hok
  have hG := Perms.grpB_grp hok
  rw [hn] at hG
  have hG' := Lib.hid hG
  have hcn' := Lib.hid hcn
  clear hok hcn hG hn
  go_enter Tryz.func22, Tryz.ntmps22
  go_wp2_with fail
  refine GroupOk_s hg0.out ?_
  intro w1 b1
  rw [hok'.out]
  have ba := b1.alloc b1.size (.cells #[] 41)
  have o0 : OwnTerms (w1.alloc (.cells #[] 41)) w.heap.size (w1.alloc (.cells #[] 41)).heap.size (.slice (some ⟨w1.heap.size, 0, none⟩) 0 0) [] [] := ⟨rfl, [], (ownT_empty w1).mono b1.size, inB_lt (ownT_empty w1), Rows.nil _ _ _⟩
  go_wp2_with fail
  go_loopg [3, 15] g.length (fun gg u3 u15 wr => ∃ (j g0 cap : Nat), u15 = .int .i64 j ∧ u3 = .slice (some ⟨g0, 0, none⟩) (Perms.spTo g j).1.length cap ∧ OwnTerms wr w.heap.size wr.heap.size (.slice (some ⟨g0, 0, none⟩) (Perms.spTo g j).1.length cap) (Perms.spTo g j).1 (Perms.spTo g j).2 ∧ Below w.heap.size w wr ∧ j + gg ≤ g.length ∧ g.length ≤ j + gg)
  case atStart => exact ⟨0, _, 0, rfl, rfl, o0, ba, by omega, by omega⟩
  case round =>
    obtain ⟨j, g0, cap, rfl, rfl, oj, bj, hj1, hj2⟩ := hrel
    by_cases hj : j < g.length
    · have hjI : (j : Int) < g.length := by omega
      obtain ⟨hlen, hlj, hcb, hxn⟩ := Perms.spTo_len g hG'.out.len j (by omega)
      obtain ⟨b7, f7, u, p, e7, hp, hcp, hup⟩ := (hg0.out.below bj).cell hj
      cases e7
      have hpm := List.mem_of_getElem? hp.out
      have hpb := Lib.hid (hG'.out.perm p hpm)
      have hpc := Lib.hid (hcn'.out p hpm)
      have hpl := Perms.permB_len hpb.out
      have hpn := hG'.out.len p hpm
      obtain ⟨t, ht⟩ : ∃ t, t = Perms.cyt p := ⟨_, rfl⟩
      obtain ⟨X, hX⟩ : ∃ X, X = (Perms.spTo g j).1 := ⟨_, rfl⟩
      obtain ⟨C, hC⟩ : ∃ C, C = (Perms.spTo g j).2 := ⟨_, rfl⟩
      have hs1 : Hid ((Perms.spTo g (j + 1)).1 = Perms.spX X t) := Lib.hid (by
        have e : g.getD j [] = p := by simp [List.getD, hp.out]
        rw [hX, ht, Perms.spTo, e])
      have hs2 : Hid ((Perms.spTo g (j + 1)).2 = Perms.spC X C t) := Lib.hid (by
        have e : g.getD j [] = p := by simp [List.getD, hp.out]
        rw [hX, hC, ht, Perms.spTo, e])
      have htl : t.length = n := by rw [ht, Perms.cyt_len]; exact hpn
      have htl10 : t.length ≤ 10 := by omega
      rw [← hX] at oj hlen hlj hxn
      rw [← hC] at oj hlen hcb
      have ht' := Lib.hid ht
      obtain ⟨ap, cp, rfl, _, _, _⟩ := hup.form
      have hup' := Lib.hid hup
      have hxn' := Lib.hid hxn
      have htl' := Lib.hid htl
      have hcap : X.length ≤ cap := by
        obtain ⟨_, _, e, _, e2, _⟩ := oj.form
        cases e; exact e2
      rw [← hX]
      clear hup hpm ht hX hC hxn htl hpn
      go_wp2_with fail
      refine CycleType_s hup'.out hpb.out hpc.out ?_
      intro v2 w2 o2 b2
      rw [← ht'.out] at o2
      obtain ⟨a2, k2, rfl, _, _, _⟩ := Own.form o2
      rw [ints_len] at o2 ⊢
      have oj2 := oj.below b2
      have bj2 := bj.trans (b2.mono bj.size)
      have ht2 := Lib.hid (OwnInts.at o2)
      obtain ⟨gi, hgi⟩ : ∃ g' : Nat, g' = gk := ⟨_, rfl⟩
      obtain ⟨ws, rfl⟩ : ∃ ws, ws = wr := ⟨_, rfl⟩
      go_wp2_with fail
      go_loopg [7] X.length (fun gg u7 w3 => Hid (w3 = w2) ∧ ∃ i : Nat, u7 = .int .i64 i ∧ Hid (∀ (k : Nat) y, k < i → X[k]? = some y → Words.cmpL y t < 0) ∧ i + gg ≤ X.length ∧ X.length ≤ i + gg)
      case atStart => exact ⟨Lib.hid rfl, 0, rfl, Lib.hid (fun t y h => by omega), by omega, by omega⟩
      case round =>
        obtain ⟨hw3, i, rfl, hlow, hi1, hi2⟩ := hrel
        obtain rfl := hw3.out
        clear hw3
        have hiW : i ≤ X.length := by omega
        -- inner
        obtain ⟨w2, rfl⟩ : ∃ w2, w2 = wr := ⟨_, rfl⟩
        by_cases hi : i < X.length
        · have hiI : (i : Int) < X.length := by omega
          obtain ⟨g0', u, x, c, e0, hx, hc, hc1, hc2, hix, hfr⟩ := oj2.cell hi
          cases e0
          obtain ⟨ax, cx, rfl, _, _, _⟩ := hix.form
          have hix' := Lib.hid hix
          have hix2 := Lib.hid hix
          have hxl : Hid (x.length = t.length) := Lib.hid (by rw [hxn'.out x (List.mem_of_getElem? hx.out), htl'.out])
          clear hix
          by_cases hcm : Words.cmpL x t < 0
          · have hd : Hid (Words.less x t = true) := Lib.hid (by rw [Words.less_cmp hxl.out]; exact decide_eq_true hcm)
            have hlow2 : Hid (∀ (k : Nat) y, k < i + 1 → X[k]? = some y → Words.cmpL y t < 0) := Lib.hid (fun k z hk hz => by
              by_cases e : k < i
              · exact hlow.out k z e hz
              · obtain rfl : k = i := by omega
                rw [hx.out] at hz
                cases hz
                exact hcm)
            clear hcm
            go_wp2_with (go_at_call 45; refine l03Less_c hix'.out ht2.out hxl.out ?_; rw [hd.out])
            go_roundg (gk - 1)
            case measure => omega
            case rel => exact ⟨Lib.hid rfl, i + 1, by go_num, hlow2, by omega, by omega⟩
          · have hd : Hid (Words.less x t = false) := Lib.hid (by rw [Words.less_cmp hxl.out]; exact decide_eq_false hcm)
            have hhi : Hid (∀ z, X[i]? = some z → ¬ Words.cmpL z t < 0) := Lib.hid (fun z hz => by rw [hx.out] at hz; cases hz; exact hcm)
            clear hcm
            by_cases hxt : x = t
            · have hl0 : Perms.ltT X t = i := Perms.ltT_at hiW hlow.out hhi.out
              have hXi : X[i]? = some t := by rw [hx.out, hxt]
              have hcbd := hcb c (List.mem_of_getElem? hc.out)
              have hA1 : Hid (Perms.spX X t = X) := Lib.hid (by unfold Perms.spX; rw [hl0, if_pos hXi])
              have hA2 : Hid (Perms.spC X C t = C.set i (c + 1)) := Lib.hid (by
                unfold Perms.spC
                rw [hl0, if_pos hXi]
                have : C.getD i 0 = c := by simp [List.getD, hc.out]
                rw [this])
              have hdt : Hid (decide (x = t) = true) := Lib.hid (decide_eq_true hxt)
              clear hl0 hXi hxt
              go_wp2_with (first
                | (go_at_call 45; refine l03Less_c hix'.out ht2.out hxl.out ?_; rw [hd.out])
                | (go_at_call 46; refine l03Same_c hix'.out ht2.out ?_; intro w4 d4; rw [hdt.out]; have oj4 := oj2.drawn d4; have bj4 := bj2.trans (d4.below _); have hsz4 := (d4.below 0).size; have hc4 := (oj4.cell hi); have hc24 := d4.cells _ _ hc2; obtain ⟨_, us4, hus4, _, _⟩ := oj4; have hfr4 := hus4.frozen (i * 2 + 1); have oj4 := oj2.drawn d4))
              have hcnt := oj4.count hc.out (c + 1)
              have hgs := grown_set w4 g0 (i * 2 + 1) (.int .i64 (c + 1))
              have hg0B : w.heap.size ≤ g0 := (hus4.lt rfl).1
              have bjs := bj4.grown hgs bj4.size (fun b hb => by cases hb; exact hg0B)
              have hszs := hgs.size
              have hcnt' := hcnt.mono (Nat.le_refl _) (show ws.heap.size ≤ (w4.setCell ⟨g0, i * 2 + 1, none⟩ (.int .i64 (c + 1))).heap.size from by have := b2.size; omega)
              go_roundg (gi - 1)
              case measure => omega
              case rel => exact ⟨j + 1, g0, cap, by go_num, by rw [hs1.out, hA1.out], by rw [hs1.out, hs2.out, hA1.out, hA2.out]; exact hcnt', bjs, by omega, by omega⟩
            · have hne : Hid (¬ X[i]? = some t) := Lib.hid (by rw [hx.out]; intro e; exact hxt (Option.some.inj e))
              have hdf : Hid (decide (x = t) = false) := Lib.hid (decide_eq_false hxt)
              have hne6 : ¬ (cap = i) := by omega
              clear hxt hix' hcb
              have hi63 : (i : Int) ≤ X.length := by omega
              have hica : i ≤ cap := by omega
              have h120 : X.length ≤ 120 := by omega
              have hl0 : Perms.ltT X t = i := Perms.ltT_at hiW hlow.out hhi.out
              have hA1 : Hid (Perms.spX X t = insAt X t i) := Lib.hid (by unfold Perms.spX insAt; rw [hl0, if_neg hne.out])
              have hA2 : Hid (Perms.spC X C t = insAt C 1 i) := Lib.hid (by unfold Perms.spC insAt; rw [hl0, if_neg hne.out])
              clear hl0
              go_wp2_with (first
                | (go_at_call 45; refine l03Less_c hix2.out ht2.out hxl.out ?_; rw [hd.out])
                | (go_at_call 46; (
                   refine l03Same_c hix2.out ht2.out ?_
                   intro w4 d4
                   rw [hdf.out]
                   have oj2 := oj2.drawn d4
                   have bj2 := bj2.trans (d4.below _)
                   have o2 := Own.drawn o2 d4
                   obtain ⟨h0, us, o3, i3, r3⟩ := oj2
                   have hul : us.length = X.length := r3.1
                   have hCl : C.length = us.length := by omega
                   have hone := Lib.hid r3.one
                   have hzl : (us.zip C).length = X.length := by rw [List.length_zip]; omega
                   have be := below_alloc w4 (.cells #[] 41)
                   have bj3 := bj2.trans (be.mono bj2.size)
                   have oe := ownT_empty w4
                   have o3e := o3.below be
                   have hA : Hid (∀ j u, (((us.zip C).take i).flatMap cellsT)[j]? = some u → (World.alloc w4 (.cells #[] 41)).cell? (Addr.add ⟨g0, 0, none⟩ j) = some u) := Lib.hid (fun j u hj => by
                     rw [addr_add, Nat.zero_add]
                     rw [flatT_take, List.getElem?_take] at hj
                     split at hj
                     · exact o3e.run hj
                     · cases hj)
                   have hil : Hid (i = ((us.zip C).take i).length) := Lib.hid (by rw [List.length_take]; omega)
                   have ho1 : Hid (∀ z ∈ us.zip C, z.1.oneCell' = true) := Lib.hid (fun z hz => by obtain ⟨u, c⟩ := z; exact hone.out u (List.of_mem_zip hz).1)
                   obtain ⟨z1, hz1⟩ : ∃ z1, z1 = (us.zip C).take i := ⟨_, rfl⟩
                   have hz1l : z1.length ≤ 120 := by rw [hz1, List.length_take]; omega
                   have ho11 : Hid (∀ z ∈ z1, z.1.oneCell' = true) := Lib.hid (fun z hz => ho1.out z (List.mem_of_mem_take (by rw [← hz1]; exact hz)))
                   rw [← hz1] at hA hil
                   obtain ⟨z2, hz2⟩ : ∃ z2, z2 = (us.zip C).drop i := ⟨_, rfl⟩
                   have hz2l : Hid (z2.length ≤ 120) := Lib.hid (by rw [hz2, List.length_drop]; omega)
                   have hz2n : Hid (X.length - i = z2.length) := Lib.hid (by rw [hz2, List.length_drop, hzl])
                   have ho12 : Hid (∀ z ∈ z2, z.1.oneCell' = true) := Lib.hid (fun z hz => ho1.out z (List.mem_of_mem_drop (by rw [← hz2]; exact hz)))
                   have hz2r : Hid (∀ (w' : World), Below (World.heap w4).size w4 w' → ∀ j u, (z2.flatMap cellsT)[j]? = some u → w'.cell? (Addr.add ⟨g0, i * 2, none⟩ j) = some u) := Lib.hid (fun w' hb j u hj => by
                     have hj' := hj
                     rw [hz2] at hj'
                     rw [flatT_drop, List.getElem?_drop] at hj'
                     rw [addr_add]
                     exact (o3.below hb).run hj')
                   have hF : Hid (∀ (v8 : Value) (w8 : World), OwnT w8 (World.heap w4).size v8 ((z1 ++ [(.slice a2 t.length k2, 1)]) ++ z2) → Below (World.heap w4).size w4 w8 → ∃ g8 c8, v8 = .slice (some ⟨g8, 0, none⟩) (Perms.spTo g (j + 1)).1.length c8 ∧ OwnTerms w8 w.heap.size w8.heap.size (.slice (some ⟨g8, 0, none⟩) (Perms.spTo g (j + 1)).1.length c8) (Perms.spTo g (j + 1)).1 (Perms.spTo g (j + 1)).2) := Lib.hid (fun v8 w8 o8 b8 => by
                     rw [hs1.out, hs2.out, hA1.out, hA2.out]
                     rw [hz1, hz2] at o8
                     exact OwnTerms.inserted h0 r3 o2 bj.size bj2.size (by omega) b8 o8)
                   clear hz1 hz2 hCl hul hzl h0))
                | (at_builtin; refine appT (ts := z1) rfl (.tmp 57) (.tmp 60) rfl rfl oe rfl hil.out hA.out ho11.out (by simp; omega) be.size ?_; intro v5 w5 o5 g5; change World.grownBy _ w5 (some (World.heap w4).size) at g5; rw [List.nil_append] at o5; have b25 : Below (World.heap w4).size w4 w5 := be.grown g5 be.size (fun b hb => by cases hb; exact Nat.le_refl _); have bl := below_alloc w5 (.cells #[.slice a2 t.length k2, .int .i64 1] 41); have b26 := b25.trans (bl.mono b25.size); have o5l := o5.below bl)
                | (at_builtin; refine appT (ts := [(.slice a2 t.length k2, 1)]) rfl (.tmp 62) (.tmp 65) rfl rfl o5l rfl rfl (term_lit w5 _ 1) (fun t ht => by rw [List.mem_singleton] at ht; subst ht; rfl) (by simp; omega) b26.size ?_; intro v7 w7 o7 g7; have b27 : Below (World.heap w4).size w4 w7 := b26.grown g7 b26.size (fun b hb => (o5l.lt hb).1))
                | (at_builtin; refine appT (ts := z2) rfl (.tmp 67) (.tmp 70) rfl rfl o7 rfl hz2n.out (hz2r.out w7 b27) ho12.out (by have := hz2l.out; simp; omega) b27.size ?_; intro v8 w8 o8 g8; have b28 : Below (World.heap w4).size w4 w8 := b27.grown g8 b27.size (fun b hb => (o7.lt hb).1)))
              obtain ⟨g8, c8, rfl, o9⟩ := hF.out v8 w8 o8 b28
              have b9 := bj2.trans (b28.mono bj2.size)
              go_roundg (gi - 1)
              case measure => omega
              case rel => exact ⟨j + 1, g8, c8, by go_num, rfl, o9, b9, by omega, by omega⟩
        · have hXi : X.length ≤ i := by omega
          have hhi : Hid (∀ z, X[i]? = some z → ¬ Words.cmpL z t < 0) := Lib.hid (fun z hz => by have := (List.getElem?_eq_some_iff.1 hz).1; omega)
          have hne : Hid (¬ X[i]? = some t) := Lib.hid (by rw [List.getElem?_eq_none (by omega)]; intro e; cases e)
          obtain rfl : i = X.length := by omega
          clear hXi hcb hi
          by_cases hci : cap = X.length
          · subst hci
            have hi63 : (X.length : Int) ≤ X.length := by omega
            have hica : X.length ≤ X.length := by omega
            have h120 : X.length ≤ 120 := by omega
            have hl0 : Perms.ltT X t = X.length := Perms.ltT_at hiW hlow.out hhi.out
            have hA1 : Hid (Perms.spX X t = insAt X t X.length) := Lib.hid (by unfold Perms.spX insAt; rw [hl0, if_neg hne.out])
            have hA2 : Hid (Perms.spC X C t = insAt C 1 X.length) := Lib.hid (by unfold Perms.spC insAt; rw [hl0, if_neg hne.out])
            clear hl0
            obtain ⟨h0, us, o3, i3, r3⟩ := oj2
            have hul : us.length = X.length := r3.1
            have hCl : C.length = us.length := by omega
            have hone := Lib.hid r3.one
            have hzl : (us.zip C).length = X.length := by rw [List.length_zip]; omega
            have be := below_alloc w2 (.cells #[] 41)
            have bj3 := bj2.trans (be.mono bj2.size)
            have oe := ownT_empty w2
            have o3e := o3.below be
            have hA : Hid (∀ j u, (((us.zip C).take X.length).flatMap cellsT)[j]? = some u → (World.alloc w2 (.cells #[] 41)).cell? (Addr.add ⟨g0, 0, none⟩ j) = some u) := Lib.hid (fun j u hj => by
              rw [addr_add, Nat.zero_add]
              rw [flatT_take, List.getElem?_take] at hj
              split at hj
              · exact o3e.run hj
              · cases hj)
            have hil : Hid (X.length = ((us.zip C).take X.length).length) := Lib.hid (by rw [List.length_take]; omega)
            have ho1 : Hid (∀ z ∈ us.zip C, z.1.oneCell' = true) := Lib.hid (fun z hz => by obtain ⟨u, c⟩ := z; exact hone.out u (List.of_mem_zip hz).1)
            obtain ⟨z1, hz1⟩ : ∃ z1, z1 = (us.zip C).take X.length := ⟨_, rfl⟩
            have hz1l : z1.length ≤ 120 := by rw [hz1, List.length_take]; omega
            have ho11 : Hid (∀ z ∈ z1, z.1.oneCell' = true) := Lib.hid (fun z hz => ho1.out z (List.mem_of_mem_take (by rw [← hz1]; exact hz)))
            rw [← hz1] at hA hil
            obtain ⟨z2, hz2⟩ : ∃ z2, z2 = (us.zip C).drop X.length := ⟨_, rfl⟩
            have hz2l : Hid (z2.length ≤ 120) := Lib.hid (by rw [hz2, List.length_drop]; omega)
            have hz2n : Hid (0 = z2.length) := Lib.hid (by rw [hz2, List.length_drop, hzl]; omega)
            have ho12 : Hid (∀ z ∈ z2, z.1.oneCell' = true) := Lib.hid (fun z hz => ho1.out z (List.mem_of_mem_drop (by rw [← hz2]; exact hz)))
            have hz2r : Hid (∀ (w' : World), Below (World.heap w2).size w2 w' → ∀ j u, (z2.flatMap cellsT)[j]? = some u → w'.cell? (Addr.add ⟨g0, 0, none⟩ j) = some u) := Lib.hid (fun w' hb j u hj => by
              have hj' := hj
              rw [hz2] at hj'
              rw [List.drop_of_length_le (by omega)] at hj'
              simp at hj')
            have hF : Hid (∀ (v8 : Value) (w8 : World), OwnT w8 (World.heap w2).size v8 ((z1 ++ [(.slice a2 t.length k2, 1)]) ++ z2) → Below (World.heap w2).size w2 w8 → ∃ g8 c8, v8 = .slice (some ⟨g8, 0, none⟩) (Perms.spTo g (j + 1)).1.length c8 ∧ OwnTerms w8 w.heap.size w8.heap.size (.slice (some ⟨g8, 0, none⟩) (Perms.spTo g (j + 1)).1.length c8) (Perms.spTo g (j + 1)).1 (Perms.spTo g (j + 1)).2) := Lib.hid (fun v8 w8 o8 b8 => by
              rw [hs1.out, hs2.out, hA1.out, hA2.out]
              rw [hz1, hz2] at o8
              exact OwnTerms.inserted h0 r3 o2 bj.size bj2.size (by omega) b8 o8)
            clear hz1 hz2 hCl hul hzl h0
            go_wp2_with (first
              | (at_builtin; refine appT (ts := z1) rfl (.tmp 57) (.tmp 60) rfl rfl oe rfl hil.out hA.out ho11.out (by simp; omega) be.size ?_; intro v5 w5 o5 g5; change World.grownBy _ w5 (some (World.heap w2).size) at g5; rw [List.nil_append] at o5; have b25 : Below (World.heap w2).size w2 w5 := be.grown g5 be.size (fun b hb => by cases hb; exact Nat.le_refl _); have bl := below_alloc w5 (.cells #[.slice a2 t.length k2, .int .i64 1] 41); have b26 := b25.trans (bl.mono b25.size); have o5l := o5.below bl)
              | (at_builtin; refine appT (ts := [(.slice a2 t.length k2, 1)]) rfl (.tmp 62) (.tmp 65) rfl rfl o5l rfl rfl (term_lit w5 _ 1) (fun t ht => by rw [List.mem_singleton] at ht; subst ht; rfl) (by simp; omega) b26.size ?_; intro v7 w7 o7 g7; have b27 : Below (World.heap w2).size w2 w7 := b26.grown g7 b26.size (fun b hb => (o5l.lt hb).1))
              | (at_builtin; refine appT (ts := z2) rfl (.tmp 67) (.tmp 70) rfl rfl o7 rfl hz2n.out (hz2r.out w7 b27) ho12.out (by have := hz2l.out; simp; omega) b27.size ?_; intro v8 w8 o8 g8; have b28 : Below (World.heap w2).size w2 w8 := b27.grown g8 b27.size (fun b hb => (o7.lt hb).1)))
            obtain ⟨g8, c8, rfl, o9⟩ := hF.out v8 w8 o8 b28
            have b9 := bj2.trans (b28.mono bj2.size)
            go_roundg (gi - 1)
            case measure => omega
            case rel => exact ⟨j + 1, g8, c8, by go_num, rfl, o9, b9, by omega, by omega⟩
          · skip
            have hi63 : (X.length : Int) ≤ X.length := by omega
            have hica : X.length ≤ cap := by omega
            have h120 : X.length ≤ 120 := by omega
            have hl0 : Perms.ltT X t = X.length := Perms.ltT_at hiW hlow.out hhi.out
            have hA1 : Hid (Perms.spX X t = insAt X t X.length) := Lib.hid (by unfold Perms.spX insAt; rw [hl0, if_neg hne.out])
            have hA2 : Hid (Perms.spC X C t = insAt C 1 X.length) := Lib.hid (by unfold Perms.spC insAt; rw [hl0, if_neg hne.out])
            clear hl0
            obtain ⟨h0, us, o3, i3, r3⟩ := oj2
            have hul : us.length = X.length := r3.1
            have hCl : C.length = us.length := by omega
            have hone := Lib.hid r3.one
            have hzl : (us.zip C).length = X.length := by rw [List.length_zip]; omega
            have be := below_alloc w2 (.cells #[] 41)
            have bj3 := bj2.trans (be.mono bj2.size)
            have oe := ownT_empty w2
            have o3e := o3.below be
            have hA : Hid (∀ j u, (((us.zip C).take X.length).flatMap cellsT)[j]? = some u → (World.alloc w2 (.cells #[] 41)).cell? (Addr.add ⟨g0, 0, none⟩ j) = some u) := Lib.hid (fun j u hj => by
              rw [addr_add, Nat.zero_add]
              rw [flatT_take, List.getElem?_take] at hj
              split at hj
              · exact o3e.run hj
              · cases hj)
            have hil : Hid (X.length = ((us.zip C).take X.length).length) := Lib.hid (by rw [List.length_take]; omega)
            have ho1 : Hid (∀ z ∈ us.zip C, z.1.oneCell' = true) := Lib.hid (fun z hz => by obtain ⟨u, c⟩ := z; exact hone.out u (List.of_mem_zip hz).1)
            obtain ⟨z1, hz1⟩ : ∃ z1, z1 = (us.zip C).take X.length := ⟨_, rfl⟩
            have hz1l : z1.length ≤ 120 := by rw [hz1, List.length_take]; omega
            have ho11 : Hid (∀ z ∈ z1, z.1.oneCell' = true) := Lib.hid (fun z hz => ho1.out z (List.mem_of_mem_take (by rw [← hz1]; exact hz)))
            rw [← hz1] at hA hil
            obtain ⟨z2, hz2⟩ : ∃ z2, z2 = (us.zip C).drop X.length := ⟨_, rfl⟩
            have hz2l : Hid (z2.length ≤ 120) := Lib.hid (by rw [hz2, List.length_drop]; omega)
            have hz2n : Hid (0 = z2.length) := Lib.hid (by rw [hz2, List.length_drop, hzl]; omega)
            have ho12 : Hid (∀ z ∈ z2, z.1.oneCell' = true) := Lib.hid (fun z hz => ho1.out z (List.mem_of_mem_drop (by rw [← hz2]; exact hz)))
            have hz2r : Hid (∀ (w' : World), Below (World.heap w2).size w2 w' → ∀ j u, (z2.flatMap cellsT)[j]? = some u → w'.cell? (Addr.add ⟨g0, X.length * 2, none⟩ j) = some u) := Lib.hid (fun w' hb j u hj => by
              have hj' := hj
              rw [hz2] at hj'
              rw [List.drop_of_length_le (by omega)] at hj'
              simp at hj')
            have hF : Hid (∀ (v8 : Value) (w8 : World), OwnT w8 (World.heap w2).size v8 ((z1 ++ [(.slice a2 t.length k2, 1)]) ++ z2) → Below (World.heap w2).size w2 w8 → ∃ g8 c8, v8 = .slice (some ⟨g8, 0, none⟩) (Perms.spTo g (j + 1)).1.length c8 ∧ OwnTerms w8 w.heap.size w8.heap.size (.slice (some ⟨g8, 0, none⟩) (Perms.spTo g (j + 1)).1.length c8) (Perms.spTo g (j + 1)).1 (Perms.spTo g (j + 1)).2) := Lib.hid (fun v8 w8 o8 b8 => by
              rw [hs1.out, hs2.out, hA1.out, hA2.out]
              rw [hz1, hz2] at o8
              exact OwnTerms.inserted h0 r3 o2 bj.size bj2.size (by omega) b8 o8)
            clear hz1 hz2 hCl hul hzl h0
            go_wp2_with (first
              | (at_builtin; refine appT (ts := z1) rfl (.tmp 57) (.tmp 60) rfl rfl oe rfl hil.out hA.out ho11.out (by simp; omega) be.size ?_; intro v5 w5 o5 g5; change World.grownBy _ w5 (some (World.heap w2).size) at g5; rw [List.nil_append] at o5; have b25 : Below (World.heap w2).size w2 w5 := be.grown g5 be.size (fun b hb => by cases hb; exact Nat.le_refl _); have bl := below_alloc w5 (.cells #[.slice a2 t.length k2, .int .i64 1] 41); have b26 := b25.trans (bl.mono b25.size); have o5l := o5.below bl)
              | (at_builtin; refine appT (ts := [(.slice a2 t.length k2, 1)]) rfl (.tmp 62) (.tmp 65) rfl rfl o5l rfl rfl (term_lit w5 _ 1) (fun t ht => by rw [List.mem_singleton] at ht; subst ht; rfl) (by simp; omega) b26.size ?_; intro v7 w7 o7 g7; have b27 : Below (World.heap w2).size w2 w7 := b26.grown g7 b26.size (fun b hb => (o5l.lt hb).1))
              | (at_builtin; refine appT (ts := z2) rfl (.tmp 67) (.tmp 70) rfl rfl o7 rfl hz2n.out (hz2r.out w7 b27) ho12.out (by have := hz2l.out; simp; omega) b27.size ?_; intro v8 w8 o8 g8; have b28 : Below (World.heap w2).size w2 w8 := b27.grown g8 b27.size (fun b hb => (o7.lt hb).1)))
            obtain ⟨g8, c8, rfl, o9⟩ := hF.out v8 w8 o8 b28
            have b9 := bj2.trans (b28.mono bj2.size)
            go_roundg (gi - 1)
            case measure => omega
            case rel => exact ⟨j + 1, g8, c8, by go_num, rfl, o9, b9, by omega, by omega⟩
    · obtain rfl : j = g.length := by omega
      have h3 := Lib.hid (H.out _ _ oj bj)
      go_wp2_with fail
      exact h3.out
end Go.Proofs.YtdjdagcgodpgdaaGreat
/- Sorting a slice of integers of the call's own: out of the library's contract. -/
set_option linter.unusedVariables false
namespace Go.Proofs.YtdjdagcgodpgdaaGreat
open Go.RowKit

theorem grownBy_sortWorld {α : Type} [Inhabited α] (enc : α → Value) (w : World) (blk off m : Nat) (dk : Array α) (os : Array Obj) : w.grownBy (sortWorld enc w blk off m dk os) (some blk) :=
  ⟨rfl, rfl, rfl, by unfold sortWorld; simp, fun k hk hne => heap_sortWorld enc w blk off m dk os hk (fun e => hne (by rw [e]))⟩
def Perms.srt (xs : List Int) : List Int := xs.mergeSort fun x y => decide (x ≤ y)
theorem Perms.srt_len (xs : List Int) : (Perms.srt xs).length = xs.length := List.length_mergeSort xs
theorem Perms.srt_two (a b : Int) : Perms.srt [a, b] = if a ≤ b then [a, b] else [b, a] := by
  by_cases h : a ≤ b <;> simp [Perms.srt, List.mergeSort, List.MergeSort.Internal.splitInTwo, List.merge, h]
theorem sortI_c {v : Value} {xs : List Int} {w : World} {B : Nat} {Q : Ending → World → Prop} (ho : OwnInts w B v xs) (hB : B ≤ w.heap.size) (hn : 0 < xs.length) (hbig : xs.length ≤ 1048576)
    (hQ : ∀ w', OwnInts w' B v (Perms.srt xs) → Below B w w' → w.grownBy w' v.ownBlock → Q (.returned (.tuple #[])) w') :
    Calls Tryz.prog 85 #[v] w Q := by
  obtain ⟨aa, ca, rfl, la, lca, cca⟩ := Own.form ho
  obtain ⟨g, rfl, hgB, hgl⟩ := Own.head ho (by rw [ints_len]; exact hn)
  have hH : Go.Sort.Holds (Value.int .i64) w g 0 xs.toArray := by
    intro j hj
    have hj' : j < xs.length := by simpa using hj
    refine ⟨?_, Own.frozen ho _⟩
    rw [Nat.zero_add, Own.cell ho (k := j) (x := .int .i64 xs[j]) (by rw [ints_get, List.getElem?_eq_getElem hj']; rfl)]
    simp [hj']
  have hc := Any.slices_Sort_int Tryz.sortI g 0 ca xs w hH hgl (by omega)
  rw [ints_len] at ho hQ ⊢
  refine hc.mono ?_
  rintro e w' ⟨rfl, n, os, rfl⟩
  have ow := own_sortWorld (Value.int .i64) ho n (Perms.srt xs).toArray os (by simp [Perms.srt])
  refine hQ _ ?_ (below_sortWorld (Value.int .i64) hB hgB 0 n (Perms.srt xs).toArray os) (grownBy_sortWorld (Value.int .i64) w g 0 n (Perms.srt xs).toArray os)
  have e : (Perms.srt xs).toArray.toList.map (Value.int .i64) = ints (Perms.srt xs) := rfl
  rw [e] at ow
  exact ow
end Go.Proofs.YtdjdagcgodpgdaaGreat
/- What a permutation of four points does to pairs of them, as the program finds it. -/
set_option linter.unusedVariables false
namespace Go.Proofs.YtdjdagcgodpgdaaGreat
open Go.RowKit

def Perms.mvTo (p : List Int) (L : List (List Int)) (j : Nat) : List Int := (L.take j).map fun x => Perms.idx L (Perms.srt (Perms.img p x))
def Perms.mvAct (p : List Int) : List Int := Perms.mvTo p (Perms.subs 2 0) (Perms.subs 2 0).length
theorem Perms.mvTo_step {p x : List Int} {L : List (List Int)} {j : Nat} (hx : L[j]? = some x) : Perms.mvTo p L (j + 1) = Perms.mvTo p L j ++ [Perms.idx L (Perms.srt (Perms.img p x))] := by
  unfold Perms.mvTo
  rw [List.take_add_one, hx, List.map_append]
  rfl
theorem Perms.mvTo_len (p : List Int) (L : List (List Int)) (j : Nat) : (Perms.mvTo p L j).length ≤ L.length := by
  unfold Perms.mvTo
  rw [List.length_map, List.length_take]
  omega
theorem PairsOf_c {w : World} {Q : Ending → World → Prop}
    (hQ : ∀ v w', OwnRows w' w.heap.size w'.heap.size v (Perms.subs 2 0) → Below w.heap.size w w' → Q (.returned v) w') :
    Calls Tryz.prog 64 #[.int .i64 4] w Q := by
  have H := Lib.hid hQ; clear hQ
  go_enter Tryz.func64, Tryz.ntmps64
  go_wp2_with fail
  refine subsetsOf_c ?_
  intro v w1 o1 b1
  have h3 := Lib.hid (H.out v w1 o1 b1)
  go_wp2_with fail
  exact h3.out
set_option maxHeartbeats 3200000 in
theorem moved_c {vL vp : Value} {L : List (List Int)} {p : List Int} {w : World} {Q : Ending → World → Prop} (hL : RowsAt w vL L) (hp : IntsAt w vp p) (hpl : p.length = 4) (hLl : L.length ≤ 64) (hasc : Perms.Asc L)
    (hrng : ∀ x ∈ L, x.length = 2 ∧ ∀ c ∈ x, 0 ≤ c ∧ c < ((4 : Nat) : Int))
    (hQ : ∀ v w', OwnInts w' w.heap.size v (Perms.mvTo p L L.length) → Below w.heap.size w w' → Q (.returned v) w') :
    Calls Tryz.prog 63 #[vL, vp] w Q := by
  have H := Lib.hid hQ; clear hQ
  have hL0 := Lib.hid hL
  have hp0 := Lib.hid hp
  have hasc' := Lib.hid hasc
  have hrng' := Lib.hid hrng
  obtain ⟨aL, cL, rfl, lL, lcL, ccL⟩ := hL.form
  obtain ⟨ap, cp, rfl, lp, lcp, ccp⟩ := hp.form
  have hpl' := Lib.hid hpl
  clear hL hp hasc hrng hpl
  go_enter Tryz.func63, Tryz.ntmps63
  go_wp2_with fail
  have o0 := own_empty w
  have b0 := below_alloc w (.cells #[] 3)
  have o0' : OwnInts (w.alloc (.cells #[] 3)) w.heap.size (.slice (some ⟨w.heap.size, 0, none⟩) 0 0) (Perms.mvTo p L 0) := o0
  go_loopg [5, 14] L.length (fun gg u5 u14 wr => ∃ (j : Nat), u14 = .int .i64 j ∧ OwnInts wr w.heap.size u5 (Perms.mvTo p L j) ∧ Below w.heap.size w wr ∧ j + gg ≤ L.length ∧ L.length ≤ j + gg)
  case atStart => exact ⟨0, rfl, o0', b0, by omega, by omega⟩
  case round =>
    obtain ⟨j, rfl, oj, bj, hj1, hj2⟩ := hrel
    obtain ⟨gk1, hgk1⟩ : ∃ g, g = gk := ⟨_, rfl⟩
    obtain ⟨a5, c5, rfl, _, _, _⟩ := Own.form oj
    have hml := Perms.mvTo_len p L j
    by_cases hj : j < L.length
    · have hjI : (j : Int) < L.length := by omega
      obtain ⟨b7, f7, u, x, e7, hx, hcx, hux⟩ := (hL0.out.below bj).cell hj
      cases e7
      obtain ⟨ax, cx, rfl, _, _, _⟩ := hux.form
      have hst := Lib.hid (Perms.mvTo_step (p := p) hx.out)
      have hxl := (hrng'.out x (List.mem_of_getElem? hx.out)).1
      have hxr := Lib.hid (hrng'.out x (List.mem_of_getElem? hx.out)).2
      rw [hxl] at hux hcx
      have hxl' := Lib.hid hxl
      clear hxl
      go_wp2_with fail
      have o1 := own_empty wr
      have b1 := below_alloc wr (.cells #[] 3)
      obtain ⟨V, hV⟩ : ∃ V, V = wr := ⟨_, rfl⟩
      have BJ : Below w.heap.size w V := by rw [hV]; exact bj
      have OJ : Own V w.heap.size 3 (.slice a5 (ints (Perms.mvTo p L j)).length c5) (ints (Perms.mvTo p L j)) := by rw [hV]; exact oj
      have UX : Hid (IntsAt V (.slice ax 2 cx) x) := Lib.hid (by rw [hV]; exact hux)
      have b1' : Below V.heap.size V (wr.alloc (.cells #[] 3)) := by rw [hV]; exact b1
      have o1' : OwnInts (wr.alloc (.cells #[] 3)) V.heap.size (.slice (some ⟨wr.heap.size, 0, none⟩) 0 0) ((Perms.img p x).take 0) := by rw [hV]; exact o1
      clear hV hux hcx
      go_loopg [8, 21] 2 (fun gg u8 u21 w2 => ∃ (i : Nat), u21 = .int .i64 i ∧ OwnInts w2 V.heap.size u8 ((Perms.img p x).take i) ∧ Below V.heap.size V w2 ∧ i + gg = 2)
      case atStart => exact ⟨0, rfl, o1', b1', rfl⟩
      case round =>
        obtain ⟨i, rfl, oi, bi, hi⟩ := hrel
        obtain ⟨a8, c8, rfl, _, _, _⟩ := Own.form oi
        have bwi := BJ.trans (bi.mono BJ.size)
        by_cases hi2 : i < 2
        · have hiI : (i : Int) < 2 := by omega
          obtain ⟨bx, ox, q, rfl, hq, hcq⟩ := (UX.out.below bi).cell (k := i) (by rw [hxl'.out]; exact hi2)
          obtain ⟨hq0, hq1⟩ := hxr.out q (List.mem_of_getElem? hq.out)
          obtain ⟨m, rfl⟩ : ∃ m : Nat, q = m := ⟨q.toNat, by omega⟩
          obtain ⟨bp, op, y, rfl, hy, hcy⟩ := (hp0.out.below bwi).cell (k := m) (by rw [hpl'.out]; omega)
          have hmI : (m : Int) < p.length := by rw [hpl'.out]; omega
          have hil : ((Perms.img p x).take i).length ≤ 2 := by rw [List.length_take]; omega
          have hst2 : Hid ((Perms.img p x).take (i + 1) = (Perms.img p x).take i ++ [y]) := Lib.hid (by
            unfold Perms.img
            rw [List.take_add_one, List.getElem?_map, hq.out]
            simp [List.getD, hy.out])
          go_wp2_with (at_builtin; refine app_int rfl (.tmp 25) (.tmp 30) rfl rfl (OwnInts.below oi (below_alloc wr _)) rfl (cell_new _ _ _) (by omega) (by have := bi.size; simp; omega) ?_; intro v3 w3 o3 g3)
          rw [← hst2.out] at o3
          have bi3 := (bi.alloc bi.size (.cells #[.int .i64 y] 3)).grown g3 (by have := bi.size; simp; omega) (fun b hb => (Own.lt oi hb).1)
          go_roundg (gk - 1)
          case measure => omega
          case rel => exact ⟨i + 1, by go_num, o3, bi3, by omega⟩
        · obtain rfl : i = 2 := by omega
          have hil2 : (Perms.img p x).length = 2 := by unfold Perms.img; rw [List.length_map]; exact hxl'.out
          have e2 : (Perms.img p x).take 2 = Perms.img p x := List.take_of_length_le (by omega)
          rw [e2] at oi ⊢
          obtain ⟨Y, hY⟩ : ∃ Y, Y = Perms.img p x := ⟨_, rfl⟩
          rw [← hY] at oi hil2 hst ⊢
          have hil2' := Lib.hid hil2
          have bis := bi.size
          clear e2 hY hil2
          obtain ⟨z, hz⟩ : ∃ z, z = Perms.idx L (Perms.srt Y) := ⟨_, rfl⟩
          rw [← hz] at hst
          have hz' := Lib.hid hz
          clear hz
          have hn0 : 0 < Y.length := by rw [hil2'.out]; omega
          have hn1 : Y.length ≤ 1048576 := by rw [hil2'.out]; omega
          have hLm : L.length ≤ 1048576 := by omega
          go_wp2_with fail
          refine sortI_c oi bis hn0 hn1 ?_
          intro w3 o3 b3 _
          have bi3 := bi.trans b3
          have bw3 := BJ.trans (bi3.mono BJ.size)
          have o3' := Lib.hid (OwnInts.at o3)
          have hL3 := Lib.hid (hL0.out.below bw3)
          clear oi bi bwi hn0 hn1 b3 o3
          go_wp2_with (first
            | (refine find_i hL3.out o3'.out hasc'.out hLm ?_; intro w4 d4; rw [← hz'.out]; have bi4 := bi3.trans (d4.below _))
            | (at_builtin; refine app_int rfl (.tmp 35) (.tmp 39) rfl rfl (OwnInts.below (Own.below OJ bi4) (below_alloc w4 _)) rfl (cell_new _ _ _) (by omega) (by have := BJ.size; have := bi4.size; simp; omega) ?_; intro v5 w5 o5 g5))
          rw [← hst.out] at o5
          have ba4 := below_alloc w4 (.cells #[.int .i64 z] 3)
          have bw4 := BJ.trans (bi4.mono BJ.size)
          have bw5 := (bw4.trans (ba4.mono bw4.size)).grown g5 (by have := bw4.size; simp; omega) (fun b hb => (Own.lt OJ hb).1)
          go_roundg (gk1 - 1)
          case measure => omega
          case rel => exact ⟨j + 1, by go_num, o5, bw5, by omega, by omega⟩
    · have hje : j = L.length := by omega
      have h2 : OwnInts wr w.heap.size (.slice a5 (ints (Perms.mvTo p L j)).length c5) (Perms.mvTo p L L.length) := by rw [← hje]; exact oj
      have h3 := Lib.hid (H.out _ wr h2 bj)
      clear h2
      go_wp2_with fail
      exact h3.out
theorem Perms.subs_asc : Perms.Asc (Perms.subs 2 0) := by
  have h : (Perms.subs 2 0).Pairwise fun a b => Words.cmpL a b < 0 := by decide
  intro i j a b hij ha hb
  obtain ⟨h1, rfl⟩ := List.getElem?_eq_some_iff.1 ha
  obtain ⟨h2, rfl⟩ := List.getElem?_eq_some_iff.1 hb
  exact (List.pairwise_iff_getElem.1 h) i j h1 h2 hij
theorem Perms.subs_rng2 : ∀ x ∈ Perms.subs 2 0, x.length = 2 ∧ ∀ c ∈ x, 0 ≤ c ∧ c < ((4 : Nat) : Int) := by decide
theorem PairAction_i {vp : Value} {p : List Int} {w : World} {Q : Ending → World → Prop} (hp : IntsAt w vp p) (hpl : p.length = 4) (hok : Perms.permB p = true)
    (hQ : ∀ v w', OwnInts w' w.heap.size v (Perms.mvAct p) → Below w.heap.size w w' → Q (.returned (.tuple #[v, .bool true])) w') :
    Calls Tryz.prog 32 #[vp] w Q := by
  have H := Lib.hid hQ; clear hQ
  have hp0 := Lib.hid hp
  obtain ⟨ap, cp, rfl, lp, lcp, ccp⟩ := hp.form
  have hpl' := Lib.hid hpl
  have hok' := Lib.hid hok
  rw [hpl] at hp0 lp lcp ⊢
  clear hp hpl hok
  go_enter Tryz.func32, Tryz.ntmps32
  go_wp2_with fail
  refine PermOk_i hp0.out ?_
  intro w1 b1
  rw [hok'.out]
  have hp1 := Lib.hid (hp0.out.below b1)
  go_wp2_with fail
  refine PairsOf_c ?_
  intro v2 w2 o2 b2
  have hp2 := Lib.hid (hp1.out.below b2)
  have o2' := Lib.hid o2.at
  have bw2 := b1.trans (b2.mono b1.size)
  have h6 : (Perms.subs 2 0).length ≤ 64 := by decide
  obtain ⟨a2, c2, rfl, _, _, _⟩ := o2.form
  clear o2
  go_wp2_with fail
  refine moved_c o2'.out hp2.out hpl'.out h6 Perms.subs_asc Perms.subs_rng2 ?_
  intro v3 w3 o3 b3
  have h3 := Lib.hid (H.out v3 w3 (OwnInts.mono o3 bw2.size) (bw2.trans (b3.mono bw2.size)))
  obtain ⟨a3, c3, rfl, _, _, _⟩ := Own.form o3
  go_wp2_with fail
  exact h3.out
end Go.Proofs.YtdjdagcgodpgdaaGreat
/- What the laws' own helpers do with slices of terms. -/
set_option linter.unusedVariables false
namespace Go.Proofs.YtdjdagcgodpgdaaGreat
open Go.RowKit

theorem mix_step {α : Type} {ys xs : List α} {j : Nat} {y : α} (hl : ys.length = xs.length) (h : ys[j]? = some y) : (ys.take j ++ xs.drop j).set j y = ys.take (j + 1) ++ xs.drop (j + 1) := by
  obtain ⟨h1, rfl⟩ := List.getElem?_eq_some_iff.1 h
  have hlt : (ys.take j).length = j := by rw [List.length_take]; omega
  rw [List.set_append_right _ _ (by omega), hlt, Nat.sub_self, List.drop_eq_getElem_cons (by omega), List.set_cons_zero, List.take_add_one, h, List.append_assoc]
  rfl
theorem mix_get {α : Type} {ys xs : List α} {j : Nat} (hl : ys.length = xs.length) (h : j < xs.length) : (ys.take j ++ xs.drop j)[j]? = xs[j]? := by
  have hlt : (ys.take j).length = j := by rw [List.length_take]; omega
  rw [List.getElem?_append_right (by omega), hlt, Nat.sub_self, List.getElem?_drop, Nat.add_zero]
def mtX (k : Int) (xss : List (List Int)) : List (List Int) := (List.range xss.length).map fun j => marks (k + sumLen (xss.take j) + j) (xss.getD j []).length
def mtC (k : Int) (xss : List (List Int)) : List Int := (List.range xss.length).map fun j => k + sumLen (xss.take (j + 1)) + j
theorem mtX_len (k : Int) (xss : List (List Int)) : (mtX k xss).length = xss.length := by simp [mtX]
theorem mtC_len (k : Int) (xss : List (List Int)) : (mtC k xss).length = xss.length := by simp [mtC]
theorem mtX_get (k : Int) {xss : List (List Int)} {j : Nat} {x : List Int} (h : xss[j]? = some x) : (mtX k xss)[j]? = some (marks (k + sumLen (xss.take j) + j) x.length) := by
  have h1 := (List.getElem?_eq_some_iff.1 h).1
  unfold mtX
  rw [List.getElem?_map, List.getElem?_range h1]
  simp [List.getD, h]
theorem mtC_get (k : Int) {xss : List (List Int)} {j : Nat} (h1 : j < xss.length) : (mtC k xss)[j]? = some (k + sumLen (xss.take (j + 1)) + j) := by
  unfold mtC
  rw [List.getElem?_map, List.getElem?_range h1]
  rfl
theorem Rows.turn {w w' : World} {B E : Nat} {us : List Value} {xss : List (List Int)} (h : Rows w B E us xss) {k : Nat} {u : Value} {ys : List Int} (hkl : k < xss.length) (hu0 : us[k]? = some u) (hu' : OwnInts w' B u ys) (hg : w.grownBy w' u.ownBlock) : Rows w' B E us (xss.set k ys) := by
  obtain ⟨h3, h4, h5⟩ := h
  refine ⟨by rw [List.length_set]; exact h3, fun i zs hi => ?_, h5⟩
  by_cases e : i = k
  · subst e
    rw [List.getElem?_set_self hkl] at hi
    obtain rfl := Option.some.inj hi
    obtain ⟨u1, a, b, c⟩ := h4 i _ (List.getElem?_eq_getElem hkl)
    rw [hu0] at a
    obtain rfl := Option.some.inj a
    exact ⟨u, hu0, hu', c⟩
  · rw [List.getElem?_set_ne (fun h => e h.symm)] at hi
    obtain ⟨z, a, b, c⟩ := h4 i zs hi
    refine ⟨z, a, Own.kept b fun q hq => hg.block q (Own.lt b hq).2 ?_, c⟩
    intro eq
    rcases Nat.lt_or_gt_of_ne e with hlt | hlt
    · rcases h5 i k z u hlt a hu0 with e' | e'
      · rw [e'] at hq; cases hq
      · exact e' (by rw [hq, ← eq])
    · rcases h5 k i u z hlt hu0 a with e' | e'
      · rw [e'] at eq; cases eq
      · exact e' (by rw [hq, ← eq])
theorem OwnTerms.kept {w w' : World} {B E : Nat} {v : Value} {xs : List (List Int)} {cs : List Int} (h : OwnTerms w B E v xs cs) (hw : ∀ k, B ≤ k → k < E → k < w.heap.size → w'.heap[k]? = w.heap[k]?) : OwnTerms w' B E v xs cs := by
  obtain ⟨h0, us, h1, h2, h3⟩ := h
  exact ⟨h0, us, h1.kept fun k hk => hw k (h1.lt hk).1 (h2 k hk) (h1.lt hk).2, h2, h3.kept hw⟩
theorem OwnTerms.touch {w w' : World} {B E B' E' : Nat} {v : Value} {xs : List (List Int)} {cs : List Int} (h : OwnTerms w B E v xs cs) (ht : Touch w w' B' E') (hd : E ≤ B' ∨ E' ≤ B) : OwnTerms w' B E v xs cs :=
  h.kept fun k h1 h2 h3 => ht.block k h3 (by omega)
/-- A term, with its row: what becomes of the whole when the row is marked. -/
theorem OwnTerms.row {w : World} {B E : Nat} {ao : Option Addr} {n cap : Nat} {xs : List (List Int)} {cs : List Int} (h : OwnTerms w B E (.slice ao n cap) xs cs) {k : Nat} (hk : k < xs.length) :
    ∃ g u x c, ao = some ⟨g, 0, none⟩ ∧ Hid (xs[k]? = some x) ∧ Hid (cs[k]? = some c) ∧ w.cell? ⟨g, k * 2, none⟩ = some u ∧ w.cell? ⟨g, k * 2 + 1, none⟩ = some (.int .i64 c) ∧ OwnInts w B u x ∧ (∀ q, u.ownBlock = some q → B ≤ q ∧ q < E) ∧ B ≤ g ∧ g < E ∧ (∀ j, w.frozen? ⟨g, j, none⟩ = false) ∧
      Hid (∀ w' ys, OwnInts w' B u ys → w.grownBy w' u.ownBlock → OwnTerms w' B E (.slice ao n cap) (xs.set k ys) cs) := by
  obtain ⟨h0, us, h1, h2, h3⟩ := h
  have hl : (us.zip cs).length = xs.length := by rw [List.length_zip, h0, h3.1, Nat.min_self]
  obtain ⟨g, rfl, hg1, hg2⟩ := h1.head (by omega)
  obtain ⟨u, x, hu, hx, ho, hi⟩ := h3.get hk
  have hc : cs[k]? = some cs[k] := List.getElem?_eq_getElem (by omega)
  have hz : (us.zip cs)[k]? = some (u, cs[k]) := by rw [List.getElem?_zip_eq_some]; exact ⟨hu.out, hc⟩
  obtain ⟨c1, c2⟩ := h1.cells hz
  refine ⟨g, u, x, cs[k], rfl, hx, Lib.hid hc, c1, c2, ho, fun q hq => ⟨(Own.lt ho hq).1, hi q hq⟩, hg1, h2 g rfl, h1.frozen, Lib.hid fun w' ys hu' hgr => ⟨by rw [List.length_set]; exact h0, us, h1.kept fun q hq => hgr.block q (h1.lt hq).2 fun e => ?_, h2, h3.turn hk hu.out hu' hgr⟩⟩
  obtain ⟨c1, e1⟩ := Own.block ho e.symm
  obtain ⟨c2, e2⟩ := h1.block hq
  rw [e1] at e2
  simp only [Option.some.injEq, Obj.cells.injEq] at e2
  exact absurd e2.2.1 (by decide)
theorem cells_new (w : World) (xs : Array Value) (T : TypeId) (j : Nat) : (w.alloc (.cells xs T)).cell? ⟨w.heap.size, j, none⟩ = xs[j]? := by
  have h : (w.alloc (.cells xs T)).heap[w.heap.size]? = some (.cells xs T (0, 0)) := by
    show (Array.push w.heap _)[w.heap.size]? = _
    rw [Array.getElem?_push_size]
  unfold World.cell?
  rw [h]
  rfl
theorem alloc_sz1 (w : World) (o : Obj) : (w.alloc o).heap.size = w.heap.size + 1 := by
  show (Array.push w.heap _).size = _
  rw [Array.size_push]
set_option maxHeartbeats 800000 in
theorem eqTerm_c {u1 u2 : Value} {c : Int} {t : List Int} {w : World} {Q : Ending → World → Prop} (h1 : IntsAt w u1 t) (h2 : IntsAt w u2 t)
    (hQ : ∀ w', Below w.heap.size w w' → Q (.returned (.bool true)) w') :
    Calls Tryz.prog 24 #[.agg #[u1, .int .i64 c], .agg #[u2, .int .i64 c]] w Q := by
  have H := Lib.hid hQ; clear hQ
  have h10 := Lib.hid h1
  have h20 := Lib.hid h2
  obtain ⟨a1, k1, rfl, _, _, _⟩ := h1.form
  obtain ⟨a2, k2, rfl, _, _, _⟩ := h2.form
  have ba := below_alloc w (.cells #[.slice a1 t.length k1, .int .i64 c] 41)
  have bb := ba.trans ((below_alloc (w.alloc (.cells #[.slice a1 t.length k1, .int .i64 c] 41)) (.cells #[.slice a2 t.length k2, .int .i64 c] 41)).mono ba.size)
  have h11 := Lib.hid (h10.out.below bb)
  have h21 := Lib.hid (h20.out.below bb)
  have hne : (c != c) = false := by simp
  clear h1 h2
  go_enter Tryz.func24, Tryz.ntmps24
  go_wp2_with fail
  refine eqIntS_c h11.out h21.out ?_
  intro w2 d2
  rw [decide_eq_true rfl]
  have b2 := Lib.hid (bb.trans (d2.below _))
  have n1 := cells_new w #[.slice a1 t.length k1, .int .i64 c] 41 1
  have n2 := cells_new (w.alloc (.cells #[.slice a1 t.length k1, .int .i64 c] 41)) #[.slice a2 t.length k2, .int .i64 c] 41 1
  have n1' := below_cells (below_alloc (w.alloc (.cells #[.slice a1 t.length k1, .int .i64 c] 41)) (.cells #[.slice a2 t.length k2, .int .i64 c] 41)) _ _ n1
  rw [alloc_sz1] at n2
  have hc1 : w2.cell? ⟨w.heap.size, 1, none⟩ = some (.int .i64 c) := d2.cells _ _ n1'
  have hc2 : w2.cell? ⟨w.heap.size + 1, 1, none⟩ = some (.int .i64 c) := d2.cells _ _ n2
  clear n1 n2 n1'
  go_wp2_with fail
  exact H.out _ b2.out
set_option maxHeartbeats 1600000 in
theorem eqTermS_c {va vb : Value} {xs : List (List Int)} {cs : List Int} {B1 E1 B2 E2 : Nat} {w : World} {Q : Ending → World → Prop} (ha : OwnTerms w B1 E1 va xs cs) (hb : OwnTerms w B2 E2 vb xs cs)
    (hQ : ∀ w', Below w.heap.size w w' → Q (.returned (.bool true)) w') :
    Calls Tryz.prog 12 #[va, vb] w Q := by
  have H := Lib.hid hQ; clear hQ
  obtain ⟨aa, ca, rfl, la, lca, cca⟩ := ha.form
  obtain ⟨ab, cb, rfl, lb, lcb, ccb⟩ := hb.form
  have hl' : ((xs.length : Int) != xs.length) = false := by simp
  go_enter Tryz.func12, Tryz.ntmps12
  go_wp2_with fail
  go_loopg [5] xs.length (fun k i wr => Below w.heap.size w wr ∧ ∃ j : Nat, i = .int .i64 j ∧ j + k ≤ xs.length ∧ xs.length ≤ j + k)
  case atStart => exact ⟨Below.refl _ _, 0, rfl, by omega, by omega⟩
  case round =>
    obtain ⟨hw, j, rfl, hk1, hk2⟩ := hrel
    obtain ⟨w5, rfl⟩ : ∃ w5, w5 = wr := ⟨_, rfl⟩
    by_cases hj : j < xs.length
    · have i1 : (j : Int) < xs.length := by omega
      obtain ⟨g1, u1, x1, c1, rfl, hx1, hc1, r1, s1, p1, f1⟩ := (ha.below hw).cell hj
      obtain ⟨g2, u2, x2, c2, rfl, hx2, hc2, r2, s2, p2, f2⟩ := (hb.below hw).cell hj
      obtain rfl : x1 = x2 := Option.some.inj (hx1.out.symm.trans hx2.out)
      obtain rfl : c1 = c2 := Option.some.inj (hc1.out.symm.trans hc2.out)
      have p1' := Lib.hid p1
      have p2' := Lib.hid p2
      clear p1 p2
      go_wp2_with fail
      go_region_with (first
        | (go_at_call 24; refine eqTerm_c (p1'.out.drawn (Drawn.one _ _)) (p2'.out.drawn (Drawn.one _ _)) ?_; intro w6 b6; have hw6 := hw.trans ((((Drawn.one w5 1).below w5.heap.size).trans b6).mono hw.size)))
      all_goals
        go_wp2_with fail
        go_roundg (gk - 1)
        case measure => omega
        case rel => exact ⟨hw6, j + 1, by go_num, by omega, by omega⟩
    · go_wp2_with fail
      exact H.out _ hw
set_option maxHeartbeats 1600000 in
theorem markTermS_c {v : Value} {xss : List (List Int)} {cs : List Int} {k : Int} {B E : Nat} {w : World} {Q : Ending → World → Prop} (ho : OwnTerms w B E v xss cs) (hk0 : 0 ≤ k) (hk : k ≤ 4611686018427) (hn : xss.length + sumLen xss ≤ 4611686018427)
    (hQ : ∀ w', OwnTerms w' B E v (mtX k xss) (mtC k xss) → Touch w w' B E → Q (.returned (.int .i64 (k + sumLen xss + xss.length))) w') :
    Calls Tryz.prog 13 #[v, .int .i64 k] w Q := by
  have H := Lib.hid hQ; clear hQ
  obtain ⟨aa, ca, rfl, la, lca, cca⟩ := ho.form
  have hcl : cs.length = xss.length := ho.1
  go_enter Tryz.func13, Tryz.ntmps13
  go_wp2_with fail
  go_loopg [1, 5] xss.length (fun g x i wr => ∃ (j : Nat) (q : Int), x = .int .i64 q ∧ i = .int .i64 j ∧ Hid (q = k + sumLen (xss.take j) + j) ∧ 0 ≤ q ∧ q ≤ 9223372036854 ∧ OwnTerms wr B E (.slice aa xss.length ca) ((mtX k xss).take j ++ xss.drop j) ((mtC k xss).take j ++ cs.drop j) ∧ Touch w wr B E ∧ j + g ≤ xss.length ∧ xss.length ≤ j + g)
  case atStart => exact ⟨0, k, rfl, rfl, Lib.hid (by simp [sumLen]), by omega, by omega, by simpa using ho, Touch.refl _ _ _, by omega, by omega⟩
  case round =>
    obtain ⟨j, q, rfl, rfl, hq, hq0, hq1, hr, ht, hk1, hk2⟩ := hrel
    obtain ⟨w5, rfl⟩ : ∃ w5, w5 = wr := ⟨_, rfl⟩
    by_cases hj : j < xss.length
    · have i1 : (j : Int) < xss.length := by omega
      have hll : ((mtX k xss).take j ++ xss.drop j).length = xss.length := by rw [List.length_append, List.length_take, List.length_drop, mtX_len]; omega
      obtain ⟨g, u, x, c, rfl, hx, hc, r1, s1, ho1, hub, hg1, hg2, hfr, hturn⟩ := hr.row (k := j) (by rw [hll]; exact hj)
      clear hll
      have hx' : Hid (xss[j]? = some x) := Lib.hid (by have := hx.out; rwa [mix_get (mtX_len k xss) hj] at this)
      have hs1 := Lib.hid (sumLen_take hx'.out)
      have hs2 := Lib.hid (sumLen_take_le xss (j + 1))
      have hq2 : q + x.length ≤ 9223372036853 := by have h1 := hs1.out; have h2 := hs2.out; have h3 := hq.out; omega
      have ho1' := Lib.hid ho1
      obtain ⟨au, cu, rfl, _, _, _⟩ := Own.form ho1
      rw [ints_len] at ho1' hturn r1 hub
      clear ho1 hx
      go_wp2_with fail
      refine markIntS_c ho1'.out (by omega) (by omega) (by have h1 := hs1.out; have h2 := hs2.out; omega) ?_
      intro w6 o6 g6
      have h6 := hturn.out _ _ o6 g6
      have e1 : marks q x.length = marks (k + sumLen (xss.take j) + j) x.length := by rw [hq.out]
      rw [e1, mix_step (mtX_len k xss) (mtX_get k hx'.out)] at h6
      have ht6 := ht.trans (Touch.of_grown g6 hub)
      have hcc : Hid (((mtC k xss).take j ++ cs.drop j)[j]? = some c) := hc
      have h7 := h6.count hcc.out (q + x.length)
      have e2 : q + x.length = k + sumLen (xss.take (j + 1)) + j := by rw [hq.out, hs1.out]; omega
      have e3 : ((mtC k xss).take j ++ cs.drop j).set j (q + x.length) = (mtC k xss).take (j + 1) ++ cs.drop (j + 1) := by
        rw [e2]
        exact mix_step (by rw [mtC_len, hcl]) (mtC_get k hj)
      rw [e3] at h7
      have h7' := Lib.hid h7
      obtain ⟨_, _, _, c6, e6, _, _, _, hc6, _, hfr6⟩ := h6.cell (k := j) (by rw [List.length_append, List.length_take, List.length_drop, mtX_len]; omega)
      cases e6
      have hfr7 := hfr6 (j * 2 + 1)
      have ht7 := ht6.trans (Touch.of_grown (v := .slice (some ⟨g, 0, none⟩) 0 0) (grown_set w6 g (j * 2 + 1) (.int .i64 (q + x.length))) (fun b hb => by cases hb; exact ⟨hg1, hg2⟩))
      clear e1 e2 e3 h7
      go_wp2_with fail
      go_roundg (gk - 1)
      case measure => omega
      case rel => exact ⟨j + 1, _, rfl, by go_num, Lib.hid (by rw [hs1.out, hq.out]; omega), by omega, by omega, h7'.out, ht7, by omega, by omega⟩
    · have e1 : Hid (k + sumLen xss + xss.length = q) := Lib.hid (by
        have := hq.out
        rw [List.take_of_length_le (by omega), show j = xss.length by omega] at this
        exact this.symm)
      rw [List.take_of_length_le (by rw [mtX_len]; omega), List.take_of_length_le (by rw [mtC_len]; omega), List.drop_eq_nil_of_le (by omega), List.drop_eq_nil_of_le (by omega), List.append_nil, List.append_nil] at hr
      go_wp2_with fail
      exact intq' (H.out _ hr ht) e1.out
set_option maxHeartbeats 1600000 in
theorem heldTermS_c {v : Value} {xss : List (List Int)} {k : Int} {B E : Nat} {w : World} {Q : Ending → World → Prop} (ho : OwnTerms w B E v (mtX k xss) (mtC k xss)) (hk0 : 0 ≤ k) (hk : k ≤ 4611686018427) (hn : xss.length + sumLen xss ≤ 4611686018427)
    (hQ : Q (.returned (.int .i64 (k + sumLen xss + xss.length))) w) :
    Calls Tryz.prog 14 #[v, .int .i64 k] w Q := by
  have H := Lib.hid hQ; clear hQ
  obtain ⟨aa, ca, rfl, la, lca, cca⟩ := ho.form
  rw [mtX_len] at *
  go_enter Tryz.func14, Tryz.ntmps14
  go_wp2_with fail
  go_loopg [1, 5] xss.length (fun g x i wr => Hid (wr = w) ∧ ∃ (j : Nat) (q : Int), x = .int .i64 q ∧ i = .int .i64 j ∧ Hid (q = k + sumLen (xss.take j) + j) ∧ 0 ≤ q ∧ q ≤ 9223372036854 ∧ j + g ≤ xss.length ∧ xss.length ≤ j + g)
  case atStart => exact ⟨Lib.hid rfl, 0, k, rfl, rfl, Lib.hid (by simp [sumLen]), by omega, by omega, by omega, by omega⟩
  case round =>
    obtain ⟨hw, j, q, rfl, rfl, hq, hq0, hq1, hk1, hk2⟩ := hrel
    obtain rfl := hw.out
    clear hw
    by_cases hj : j < xss.length
    · have i1 : (j : Int) < xss.length := by omega
      obtain ⟨g, u, x, c, rfl, hx, hc, r1, s1, hp, hfr⟩ := ho.cell (k := j) (by rw [mtX_len]; exact hj)
      obtain ⟨y, hy⟩ : ∃ y, xss[j]? = some y := ⟨_, List.getElem?_eq_getElem hj⟩
      have hs1 := Lib.hid (sumLen_take hy)
      have hs2 := Lib.hid (sumLen_take_le xss (j + 1))
      have hxe := hx.out
      rw [mtX_get k hy, ← hq.out] at hxe
      obtain rfl := Option.some.inj hxe
      have hce := hc.out
      rw [mtC_get k hj, show k + (sumLen (xss.take (j + 1)) : Int) + j = q + y.length by rw [hs1.out, hq.out]; omega] at hce
      obtain rfl := Option.some.inj hce
      have hq2 : q + y.length ≤ 9223372036853 := by have h1 := hs1.out; have h2 := hs2.out; have h3 := hq.out; omega
      have hne : ((q + (y.length : Int)) != q + y.length) = false := by simp
      have hp' := Lib.hid hp
      obtain ⟨au, cu, rfl, _, _, _⟩ := hp.form
      clear hxe hce hx hc hy hp
      go_wp2_with fail
      refine heldIntS_c hp'.out (by omega) (by omega) (by have h1 := hs1.out; have h2 := hs2.out; omega) ?_
      go_wp2_with fail
      go_roundg (gk - 1)
      case measure => omega
      case rel => exact ⟨Lib.hid rfl, j + 1, _, rfl, by go_num, Lib.hid (by rw [hs1.out, hq.out]; omega), by omega, by omega, by omega, by omega⟩
    · have e1 : Hid (k + sumLen xss + xss.length = q) := Lib.hid (by
        have := hq.out
        rw [List.take_of_length_le (by omega), show j = xss.length by omega] at this
        exact this.symm)
      go_wp2_with fail
      exact intq' H.out e1.out
end Go.Proofs.YtdjdagcgodpgdaaGreat
