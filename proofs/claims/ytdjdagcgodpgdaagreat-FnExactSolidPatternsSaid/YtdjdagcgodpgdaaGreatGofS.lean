/-
  The group that some permutations make, as the reference makes it.
-/
import Derived.Test.YtdjdagcgodpgdaaGreatGof0
import Derived.Test.YtdjdagcgodpgdaaGreatVals
import Derived.Test.YtdjdagcgodpgdaaGreatPut
import Derived.Test.YtdjdagcgodpgdaaGreatIdp
import Derived.Test.YtdjdagcgodpgdaaGreatGrp
set_option linter.unusedVariables false
namespace Go.Proofs.YtdjdagcgodpgdaaGreat
open Go.RowKit

set_option maxHeartbeats 4000000 in
theorem GroupOf_s {vg : Value} {gens : List (List Int)} {n : Int} {w : World} {Q : Ending → World → Prop} (hg : RowsAt w vg gens)
    (hQ : ∀ v w', OwnRows w' w.heap.size w'.heap.size v (Perms.gofW n gens) → Below w.heap.size w w' → Q (.returned (.tuple #[v, .bool (Perms.gofB n gens)])) w') :
    Calls Tryz.prog 27 #[.int .i64 n, vg] w Q := by
  have H := Lib.hid hQ; clear hQ
  have hg0 := Lib.hid hg
  have bad : ∀ w', Below w.heap.size w w' → Perms.gofO n gens = none → Q (.returned (.tuple #[.slice none 0 0, .bool false])) w' := fun w' hb hf => by
    have := H.out (.slice none 0 0) w' (by unfold Perms.gofW; rw [hf]; exact OwnRows.nil _ _ _) hb
    unfold Perms.gofB at this
    rw [hf] at this; exact this
  have good : ∀ w' v q, Below w.heap.size w w' → Perms.gofO n gens = some q → OwnRows w' w.heap.size w'.heap.size v (Perms.isort q) → Q (.returned (.tuple #[v, .bool true])) w' := fun w' v q hb hf ho => by
    have := H.out v w' (by unfold Perms.gofW; rw [hf]; exact ho) hb
    unfold Perms.gofB at this
    rw [hf] at this; exact this
  have bad' := Lib.hid bad
  have good' := Lib.hid good
  clear bad good
  obtain ⟨aa, ca, rfl, la, lca, cca⟩ := hg.form
  clear hg
  by_cases hn : 1 ≤ n ∧ n ≤ 10
  rotate_left
  · have hd : Hid (decide (1 ≤ n ∧ n ≤ 10) = false) := Lib.hid (decide_eq_false hn)
    have e : Hid (Perms.gofO n gens = none) := Lib.hid (by unfold Perms.gofO Perms.gokB; rw [hd.out]; rfl)
    clear hn
    go_enter Tryz.func27, Tryz.ntmps27
    go_wp2_with (go_at_call 29; refine l01In_c ?_; rw [hd.out])
    all_goals exact bad'.out _ (Below.refl _ _) e.out
  have hd : Hid (decide (1 ≤ n ∧ n ≤ 10) = true) := Lib.hid (decide_eq_true hn)
  obtain ⟨hn1, hn2⟩ := hn
  obtain ⟨n0, rfl⟩ : ∃ n0 : Nat, n = n0 := ⟨n.toNat, by omega⟩
  go_enter Tryz.func27, Tryz.ntmps27
  go_wp2_with (go_at_call 29; refine l01In_c ?_; rw [hd.out])
  have hgl63 := Lib.hid la
  go_loopg [19] gens.length (fun g i wr => Below w.heap.size w wr ∧ ∃ j : Nat, i = .int .i64 j ∧ Hid ((gens.take j).all (fun p => Perms.permB p && decide ((p.length : Int) = n0)) = true) ∧ j + g ≤ gens.length ∧ gens.length ≤ j + g)
  case atStart => exact ⟨Below.refl _ _, 0, rfl, Lib.hid rfl, by omega, by omega⟩
  case round =>
    obtain ⟨hb, j, rfl, hok, hk1, hk2⟩ := hrel
    by_cases hj : j < gens.length
    · obtain ⟨b, off, u, p, rfl, hx, hcw, hi⟩ := hg0.out.cell hj
      obtain ⟨au, cu, rfl, lp, _, _⟩ := hi.form
      have i1 : (j : Int) < gens.length := by omega
      have hc := below_cells hb _ _ hcw
      have hi' := Lib.hid (hi.below hb)
      have hst : Hid ((gens.take (j + 1)).all (fun p => Perms.permB p && decide ((p.length : Int) = n0)) = (Perms.permB p && decide ((p.length : Int) = n0))) := Lib.hid (by
        rw [List.take_add_one, hx.out, List.all_append, hok.out]; simp)
      have hbadp : Hid ((Perms.permB p && decide ((p.length : Int) = n0)) = false → Perms.gofO n0 gens = none) := Lib.hid (fun h => by
        unfold Perms.gofO
        rw [if_neg]
        intro h2
        have := (Perms.gok_parts h2).2.2 p (List.mem_of_getElem? hx.out)
        rw [this.1, decide_eq_true this.2] at h
        cases h)
      clear hi
      go_wp2_with fail
      refine PermOk_s hi'.out ?_
      intro w2 b2
      have hbb : Below w.heap.size w w2 := hb.trans (b2.mono hb.size)
      cases hpb : Perms.permB p with
      | false =>
        have hf := Lib.hid (hbadp.out (by rw [hpb]; rfl))
        clear hpb
        go_wp2_with fail
        exact bad'.out _ hbb hf.out
      | true =>
        by_cases hln : (p.length : Int) = n0
        · have hs2 : Hid ((gens.take (j + 1)).all (fun p => Perms.permB p && decide ((p.length : Int) = n0)) = true) := Lib.hid (by rw [hst.out, hpb, decide_eq_true hln]; rfl)
          have hne : ((p.length : Int) != n0) = false := by rw [hln]; simp
          clear hpb hln
          go_wp2_with fail
          go_roundg (gk - 1)
          case measure => omega
          case rel => exact ⟨hbb, j + 1, by go_num, hs2, by omega, by omega⟩
        · have hf := Lib.hid (hbadp.out (by rw [hpb, decide_eq_false hln]; rfl))
          have hne : ((p.length : Int) != n0) = true := by simpa using hln
          clear hpb hln
          go_wp2_with fail
          exact bad'.out _ hbb hf.out
    · have hgok : Perms.gokB n0 gens = true := by
        have h := hok.out
        rw [List.take_of_length_le (by omega)] at h
        unfold Perms.gokB
        rw [h, decide_eq_true (by omega)]; rfl
      have hgo : Hid (Perms.gofO n0 gens = Perms.bfs gens 121 0 [Perms.iota n0]) := Lib.hid (by unfold Perms.gofO; rw [if_pos hgok, Int.toNat_natCast])
      have hgr := Lib.hid (Perms.gok_inR hgok)
      have hg1 := Lib.hid (hg0.out.below hb)
      clear hgok hok
      go_wp2_with fail
      refine IdentityPerm_s (by omega) (by omega) ?_
      intro v1 w1 o1 b1
      obtain ⟨a1, c1, rfl, _, _, _⟩ := Own.form o1
      have bw1 := hb.trans (b1.mono hb.size)
      have hb1s := b1.size
      have q1 := own_rows_one (OwnInts.mono o1 hb.size) bw1.size
      have ba1 := below_alloc w1 (.cells #[.slice a1 (ints (Perms.iota n0)).length c1] 36)
      have bwa1 := bw1.trans (ba1.mono bw1.size)
      have q1' := Lib.hid q1
      clear q1
      go_wp2_with fail
      refine IdentityPerm_s (by omega) (by omega) ?_
      intro v2 w2 o2 b2
      obtain ⟨a2, c2, rfl, _, _, _⟩ := Own.form o2
      have bw2 := bwa1.trans (b2.mono bwa1.size)
      have q2 := q1'.out.below b2
      have r2 := own_rows_one (OwnInts.mono o2 bwa1.size) bw2.size
      have ba2 := below_alloc w2 (.cells #[.slice a2 (ints (Perms.iota n0)).length c2] 36)
      have bwa2 := bw2.trans (ba2.mono bw2.size)
      have q3 := q2.below ba2
      obtain ⟨us0, g0o, _, g0r⟩ := (q3.tight).parts
      obtain ⟨uq0, p0o, _, p0r⟩ := (r2.tight).parts
      have p0v := p0r.vals
      have hgw2 := Lib.hid (((hg1.out.below b1).below ba1).below b2 |>.below ba2)
      have g0r' : Hid (Rows (w2.alloc (.cells #[.slice a2 (ints (Perms.iota n0)).length c2] 36)) w.heap.size _ us0 (Perms.isort [Perms.iota n0])) := Lib.hid g0r
      have p0v' := Lib.hid p0v
      have hinv := Lib.hid (Perms.GofInv.start (n := n0))
      clear q2 q3 r2 g0r p0r p0v q1'
      go_wp2_with fail
      go_loopg [8, 9, 10] 120 (fun gg u8 u9 u10 wr => ∃ (a : Nat) (q : List (List Int)) (us uq : List Value), u10 = .int .i64 a ∧ Own wr w.heap.size 36 u8 us ∧ Hid (Rows wr w.heap.size wr.heap.size us (Perms.isort q)) ∧ Own wr w.heap.size 36 u9 uq ∧ Hid (Vals wr w.heap.size uq q) ∧ Hid (Perms.GofInv n0 q) ∧ Hid (Perms.gofO n0 gens = Perms.bfs gens (gg + 1) a q) ∧ Below w.heap.size w wr ∧ Hid (RowsAt wr (.slice aa gens.length ca) gens) ∧ a ≤ q.length ∧ a + gg = 120)
      case atStart => exact ⟨0, [Perms.iota n0], us0, uq0, rfl, g0o, g0r', p0o, p0v', hinv, hgo, bwa2, hgw2, by simp, rfl⟩
      case round =>
        obtain ⟨a, q, us, uq, rfl, og, rg, oq, vq, inv, hbf, bwr, hgr3, ha1, ha2⟩ := hrel
        obtain ⟨gk1, hgk1⟩ : ∃ g, g = gk := ⟨_, rfl⟩
        obtain ⟨a8, c8, rfl, _, _, _⟩ := Own.form og
        obtain ⟨a9, c9, rfl, _, _, _⟩ := Own.form oq
        have hql := inv.out.le
        have huql : uq.length ≤ q.length ∧ q.length ≤ uq.length := by have := vq.out.1; omega
        by_cases ha : a < q.length
        · have haI : (a : Int) < uq.length := by omega
          obtain ⟨p, hp0⟩ : ∃ p, q[a]? = some p := ⟨_, List.getElem?_eq_getElem ha⟩
          have hp := Lib.hid hp0
          have hgk : gk = gk1 - 1 + 1 := by omega
          have hrow : Hid (Perms.gofO n0 gens = (Perms.rowTo gens p q gens.length).bind (Perms.bfs gens (gk1 - 1 + 1) (a + 1))) := Lib.hid (by
            rw [hbf.out, Perms.bfs_row hp0, ← hgk])
          clear hp0
          go_wp2_with fail
          have hst0 : Hid (Perms.rowTo gens p q 0 = some q) := Lib.hid rfl
          go_loopg [8, 9, 47] gens.length (fun gg u8 u9 u47 wr2 => ∃ (t : Nat) (cur : List (List Int)) (us uq : List Value), u47 = .int .i64 t ∧ Own wr2 w.heap.size 36 u8 us ∧ Hid (Rows wr2 w.heap.size wr2.heap.size us (Perms.isort cur)) ∧ Own wr2 w.heap.size 36 u9 uq ∧ Hid (Vals wr2 w.heap.size uq cur) ∧ Hid (Perms.GofInv n0 cur) ∧ Hid (Perms.rowTo gens p q t = some cur) ∧ Hid (cur[a]? = some p) ∧ Below w.heap.size w wr2 ∧ Hid (RowsAt wr2 (.slice aa gens.length ca) gens) ∧ t + gg ≤ gens.length ∧ gens.length ≤ t + gg)
          case atStart => exact ⟨0, q, us, uq, rfl, og, rg, oq, vq, inv, hst0, hp, bwr, hgr3, by omega, by omega⟩
          case round =>
            obtain ⟨t, cur, us, uq, rfl, og, rg, oq, vq, inv, hrt, hpa, bwr, hgr3, ht1, ht2⟩ := hrel
            obtain ⟨a8, c8, rfl, _, _, _⟩ := Own.form og
            obtain ⟨a9, c9, rfl, _, _, _⟩ := Own.form oq
            have hql := inv.out.le
            have huql : uq.length ≤ cur.length ∧ cur.length ≤ uq.length := by have := vq.out.1; omega
            have husl : us.length ≤ cur.length ∧ cur.length ≤ us.length := by have := rg.out.1; rw [Perms.isort_len] at this; omega
            have hac : a < cur.length := (List.getElem?_eq_some_iff.1 hpa.out).1
            by_cases ht : t < gens.length
            · have htI : (t : Int) < gens.length := by omega
              have haI2 : (a : Int) < uq.length := by omega
              obtain ⟨b7, f7, ug, s, rfl, hs, hcs, hus⟩ := hgr3.out.cell ht
              obtain ⟨ag, cg, rfl, _, _, _⟩ := hus.form
              have hus' := Lib.hid hus
              obtain ⟨up, hup, hoip⟩ := vq.out.2 a p hpa.out
              obtain ⟨ap, cp, rfl, _, _, _⟩ := Own.form hoip
              obtain ⟨g9, rfl, _, _⟩ := Own.head oq (by omega)
              have hcp := Own.cell oq hup
              have hip := Lib.hid (OwnInts.at hoip)
              have hpR := inv.out.rg p (List.mem_of_getElem? hpa.out)
              have hsR := hgr.out s (List.mem_of_getElem? hs.out)
              have hcR := Lib.hid (Perms.inR_comp hpR hsR)
              have hpl : p.length ≤ 1048576 := by rw [hpR.1]; omega
              have hpr : Hid (∀ x ∈ p, 0 ≤ x ∧ x < s.length) := Lib.hid (by rw [hsR.1]; exact hpR.2)
              have hstep : Hid (Perms.rowTo gens p q (t + 1) = Perms.stepG (some cur) (Perms.comp p s)) := Lib.hid (by rw [Perms.rowTo_step hs.out, hrt.out])
              clear hus hup hpR hsR
              go_wp2_with fail
              refine compose_s hip.out hus'.out hpl hpr.out ?_
              intro v3 w3 o3 b3
              obtain ⟨a3, c3, rfl, _, _, _⟩ := Own.form o3
              have bw3 := bwr.trans (b3.mono bwr.size)
              have og3 := Own.below og b3
              have rg3 := Lib.hid (rg.out.below b3)
              have oq3 := Own.below oq b3
              have vq3 := Lib.hid (vq.out.below b3)
              have hgr33 := Lib.hid (hgr3.out.below b3)
              have hgat := Lib.hid ((rg3.out.vals).at og3)
              have o3' := Lib.hid o3
              obtain ⟨c, hc⟩ : ∃ c, c = Perms.comp p s := ⟨_, rfl⟩
              rw [← hc] at o3 o3' hcR hstep ⊢
              have hcn := hcR.out.1
              have hln : Hid (∀ x ∈ Perms.isort cur, x.length = c.length) := Lib.hid (fun x hx => by rw [(inv.out.rg x (Perms.isort_mem.1 hx)).1, hcn])
              have hasc := Lib.hid (Perms.isort_asc inv.out.nd)
              have hisl : (Perms.isort cur).length ≤ 1048576 := by rw [Perms.isort_len]; omega
              have hisl' := Lib.hid hisl
              clear hc hisl o3
              by_cases hm : c ∈ cur
              · have hix : Hid (0 ≤ Perms.idx (Perms.isort cur) c) := Lib.hid (by unfold Perms.idx; rw [if_pos (Perms.isort_mem.2 hm)]; omega)
                have hst2 : Hid (Perms.rowTo gens p q (t + 1) = some cur) := Lib.hid (by rw [hstep.out]; simp [Perms.stepG, hm])
                clear hm hcn
                go_wp2_with fail
                refine find_s hgat.out (OwnInts.at o3'.out) hasc.out hisl'.out hln.out ?_
                intro w4 d4
                have hix2 := hix.out
                obtain ⟨ix, hixe⟩ : ∃ ix, ix = Perms.idx (Perms.isort cur) c := ⟨_, rfl⟩
                rw [← hixe] at hix2 ⊢
                have og4 := Own.drawn og3 d4
                have rg4 := Lib.hid (rg3.out.drawn d4)
                have oq4 := Own.drawn oq3 d4
                have vq4 := Lib.hid (vq3.out.drawn d4)
                have hgr4 := Lib.hid (hgr33.out.drawn d4)
                have bw4 := bw3.trans (d4.below _)
                clear hixe
                go_wp2_with fail
                go_roundg (gk - 1)
                case measure => omega
                case rel => exact ⟨t + 1, cur, us, uq, by go_num, og4, Lib.hid (rg4.out.tight), oq4, vq4, inv, hst2, hpa, bw4, hgr4, by omega, by omega⟩
              · have hix : Hid (Perms.idx (Perms.isort cur) c = -1) := Lib.hid (by unfold Perms.idx; rw [if_neg (fun h => hm (Perms.isort_mem.1 h))])
                by_cases h120 : cur.length = 120
                · have hst2 : Hid (Perms.rowTo gens p q (t + 1) = none) := Lib.hid (by rw [hstep.out]; simp [Perms.stepG, hm, h120])
                  have hno : Hid (Perms.gofO n0 gens = none) := Lib.hid (by rw [hrow.out, Perms.rowTo_none hst2.out]; rfl)
                  have hus120 : (us.length : Int) = 120 := by omega
                  clear hm h120 hcn
                  go_wp2_with fail
                  refine find_s hgat.out (OwnInts.at o3'.out) hasc.out hisl'.out hln.out ?_
                  intro w4 d4
                  rw [hix.out]
                  have bw4 := bw3.trans (d4.below _)
                  go_wp2_with fail
                  exact bad'.out _ bw4 hno.out
                · have hst2 : Hid (Perms.rowTo gens p q (t + 1) = some (cur ++ [c])) := Lib.hid (by rw [hstep.out]; simp [Perms.stepG, hm, h120])
                  have inv2 := Lib.hid (inv.out.add hcR.out hm h120)
                  have hus120 : ((us.length : Int) == 120) = false := by
                    rw [beq_eq_false_iff_ne]; omega
                  have hpa2 : Hid ((cur ++ [c])[a]? = some p) := Lib.hid (by rw [List.getElem?_append_left hac]; exact hpa.out)
                  clear hm hcn
                  go_wp2_with fail
                  refine find_s hgat.out (OwnInts.at o3'.out) hasc.out hisl'.out hln.out ?_
                  intro w4 d4
                  rw [hix.out]
                  have og4 := Own.drawn og3 d4
                  have rg4 := Lib.hid (rg3.out.drawn d4)
                  have oq4 := Own.drawn oq3 d4
                  have vq4 := Lib.hid (vq3.out.drawn d4)
                  have hgr4 := Lib.hid (hgr33.out.drawn d4)
                  have bw4 := bw3.trans (d4.below _)
                  have o34 := Lib.hid (OwnInts.drawn o3'.out d4)
                  have hil : Hid ((Perms.isort cur).length ≤ 1024) := Lib.hid (by rw [Perms.isort_len]; omega)
                  have hln4 : Hid (∀ x ∈ Perms.isort cur, x.length = n0) := Lib.hid (fun x hx => (inv.out.rg x (Perms.isort_mem.1 hx)).1)
                  go_wp2_with fail
                  refine l03Put_c (n := n0) (Own.row og4) rg4.out.1 rg4.out.vals.ints (OwnInts.at o34.out) hil.out hln4.out hcR.out.1 ?_
                  intro v5 w5 i hi hlow hhi o5 b5
                  have hisn : Perms.isort (cur ++ [c]) = ((Perms.isort cur).take i ++ [c]) ++ (Perms.isort cur).drop i := by
                    rw [Perms.isort_snoc, Perms.ins_at hi hlow hhi, List.append_assoc, List.singleton_append]
                  have b3s := b3.size
                  have d4s := (d4.below 0).size
                  have rg5 := (rg4.out.below b5).ins (OwnInts.mono (OwnInts.below o34.out b5) bwr.size) (fun b hb => (Own.lt o3'.out hb).1) hi
                  rw [← hisn] at rg5
                  have rg5' := Lib.hid rg5
                  obtain ⟨us5, hus5⟩ : ∃ us5, us5 = ((us.take i ++ [.slice a3 (ints c).length c3]) ++ us.drop i) := ⟨_, rfl⟩
                  rw [← hus5] at o5 rg5'
                  obtain ⟨a5, c5, rfl, _, _, _⟩ := Own.form o5
                  have oq5 := Own.below oq4 b5
                  have vq5 := Lib.hid (vq4.out.below b5)
                  have hgr5 := Lib.hid (hgr4.out.below b5)
                  have bw5 := bw4.trans (b5.mono bw4.size)
                  have o35 := Lib.hid (OwnInts.below o34.out b5)
                  clear rg5 hus5 hisn hlow hhi hi
                  have ba5 := below_alloc w5 (.cells #[.slice a3 (ints c).length c3] 36)
                  have oq6 := Own.below oq5 ba5
                  have hr6 := row_one w5 (.slice a3 (ints c).length c3) 36
                  have hone6 : Hid (∀ y ∈ [Value.slice a3 (ints c).length c3], y.oneCell' = true) := Lib.hid (fun y hy => by rw [List.mem_singleton] at hy; rw [hy]; rfl)
                  have bw6 := bw5.trans (ba5.mono bw5.size)
                  go_wp2_with (at_builtin; refine app_outer rfl (.tmp 67) (.tmp 69) rfl rfl oq6 rfl hr6 hone6.out (by show uq.length + 1 ≤ 1099511627776; omega) bw6.size ?_; intro v7 w7 o7 g7)
                  have bw7 := bw6.grown g7 bw6.size (fun b hb => (Own.lt oq6 hb).1)
                  have og7 := (Own.grown (Own.below o5 ba5) g7 (own_ne' oq4 o5 (Nat.le_refl _))).mono bw4.size
                  have rg7 := Lib.hid (((rg5'.out.below ba5).outer oq6 g7).tight)
                  have vq7 := Lib.hid (((vq5.out.below ba5).push (OwnInts.mono (OwnInts.below o35.out ba5) bwr.size)).outer oq6 g7)
                  have hgr7 := Lib.hid (hg0.out.below bw7)
                  go_roundg (gk - 1)
                  case measure => omega
                  case rel => exact ⟨t + 1, cur ++ [c], us5, uq ++ [.slice a3 (ints c).length c3], by go_num, og7, rg7, o7, vq7, inv2, hst2, hpa2, bw7, hgr7, by omega, by omega⟩
            · have hte : t = gens.length := by omega
              have hbf2 : Hid (Perms.gofO n0 gens = Perms.bfs gens (gk1 - 1 + 1) (a + 1) cur) := Lib.hid (by rw [hrow.out, ← hte, hrt.out]; rfl)
              go_wp2_with fail
              go_roundg (gk1 - 1)
              case measure => omega
              case rel => exact ⟨a + 1, cur, us, uq, by go_num, og, rg, oq, vq, inv, hbf2, bwr, hgr3, by omega, by omega⟩
        · obtain rfl : a = q.length := by omega
          have hfin : Hid (Perms.gofO n0 gens = some q) := Lib.hid (by rw [hbf.out, Perms.bfs_end (Nat.le_refl _)])
          have how := (rg.out.whole og (Own.inBlk og))
          have h3 := Lib.hid (good'.out wr _ q bwr hfin.out how)
          go_wp2_with fail
          exact h3.out
end Go.Proofs.YtdjdagcgodpgdaaGreat
