/-
  The cycles of a permutation: both sides (printed by mk/mkcyc.py).
-/
import Derived.Test.YtdjdagcgodpgdaaCyc0
import Derived.Test.YtdjdagcgodpgdaaPerm
import Derived.Test.YtdjdagcgodpgdaaRowx
set_option linter.unusedVariables false
namespace Go.Proofs.Ytdjdagcgodpgdaa
open Go.RowKit

set_option maxHeartbeats 3200000 in
theorem CyclesOf_s {vp : Value} {p : List Int} {w : World} {Q : Ending → World → Prop} (hp : IntsAt w vp p)
    (hQ : ∀ v w', OwnRows w' w.heap.size w'.heap.size v (Perms.cycles p) → Below w.heap.size w w' → Q (.returned v) w') :
    Calls Try.prog 92 #[vp] w Q := by
  have H := Lib.hid hQ; clear hQ
  have hp0 := Lib.hid hp
  obtain ⟨ap, cp, rfl, lp, lcp, ccp⟩ := hp.form
  clear hp
  by_cases hok : Perms.permB p = true
  rotate_left
  · have hf : Perms.permB p = false := by simpa using hok
    have hf' := Lib.hid hf
    have hc : Hid (Perms.cycles p = []) := Lib.hid (by unfold Perms.cycles; rw [if_neg hok])
    clear hok hf
    go_enter Try.func92, Try.ntmps92
    go_wp2_with fail
    refine PermOk_s hp0.out ?_
    intro w1 b1
    rw [hf'.out]
    have h3 := Lib.hid (H.out (.slice none 0 0) w1 (by rw [hc.out]; exact OwnRows.nil _ _ _) b1)
    go_wp2_with fail
    exact h3.out
  have hpl := Perms.permB_len hok
  have hR : Perms.inR p.length p := ⟨rfl, Perms.permB_range hok⟩
  have hR' := Lib.hid hR
  have hok' := Lib.hid hok
  have hc : Hid (Perms.cycles p = (Perms.cycTo p p.length).2) := Lib.hid (by unfold Perms.cycles; rw [if_pos hok])
  clear hok hR
  go_enter Try.func92, Try.ntmps92
  go_wp2_with fail
  refine PermOk_s hp0.out ?_
  intro w1 b1
  rw [hok'.out]
  have o0 := own_outer_empty w1
  have b0 := below_alloc w1 (.cells #[] 38)
  have bw0 := b1.trans (b0.mono b1.size)
  go_wp2_with (at_make; refine mk_bools rfl (.tmp 13) (.tmp 13) rfl rfl rfl p.length rfl (by omega) ?_; intro w2 hB2 hb2 hs2)
  obtain ⟨bb, hbb⟩ : ∃ bb, bb = (w1.alloc (.cells #[] 38)).heap.size := ⟨_, rfl⟩
  have hbb2 : w.heap.size ≤ bb := by have := b1.size; rw [hbb]; simp; omega
  have hbb3 : bb = w1.heap.size + 1 := by rw [hbb]; simp
  have hB2' : Hid (BoolsIn w2 bb 4 p.length (fun i => decide (i ∈ (Perms.cycTo p 0).1))) := Lib.hid (by rw [hbb]; exact hB2.congr (fun i hi => by simp [Perms.cycTo]))
  have o2 : Own w2 w.heap.size 38 (.slice (some ⟨w1.heap.size, 0, none⟩) 0 0) [] := Own.mono (Own.below o0 hb2) b1.size
  have bw2 := bw0.trans (hb2.mono bw0.size)
  have R0 : Hid (Rows w2 w.heap.size w2.heap.size [] (Perms.cycTo p 0).2) := Lib.hid (Rows.nil w2 w.heap.size w2.heap.size)
  rw [← hbb3]
  clear hB2 o0 hbb hbb3
  go_wp2_with fail
  go_loopg [3, 17] p.length (fun gg u3 u17 wr => ∃ (j : Nat) (us : List Value), u17 = .int .i64 j ∧ Own wr w.heap.size 38 u3 us ∧ Hid (Rows wr w.heap.size wr.heap.size us (Perms.cycTo p j).2) ∧ Hid (BoolsIn wr bb 4 p.length (fun i => decide (i ∈ (Perms.cycTo p j).1))) ∧ Below w.heap.size w wr ∧ j + gg ≤ p.length ∧ p.length ≤ j + gg)
  case atStart => exact ⟨0, [], rfl, o2, R0, hB2', bw2, by omega, by omega⟩
  case round =>
    obtain ⟨j, us, rfl, oj, rj, Bj, bj, hj1, hj2⟩ := hrel
    obtain ⟨gk1, hgk1⟩ : ∃ g, g = gk := ⟨_, rfl⟩
    obtain ⟨a3, c3, rfl, _, _, _⟩ := Own.form oj
    have hul : us.length ≤ 10 := by have := Perms.cycTo_len p j; rw [rj.out.1]; omega
    by_cases hj : j < p.length
    · have hjI : (j : Int) < p.length := by omega
      have hcb := Bj.out.cell hj
      have hseen := Lib.hid (Perms.cycTo_seen hR'.out j (by omega))
      have hst : Perms.cycTo p (j + 1) = if j ∈ (Perms.cycTo p j).1 then Perms.cycTo p j else ((Perms.cycW p (p.length + 1 - (Perms.cycTo p j).1.length) j (Perms.cycTo p j).1 []).1, (Perms.cycTo p j).2 ++ [(Perms.cycW p (p.length + 1 - (Perms.cycTo p j).1.length) j (Perms.cycTo p j).1 []).2]) := rfl
      by_cases hm : j ∈ (Perms.cycTo p j).1
      · rw [if_pos hm] at hst
        have hst' := Lib.hid hst
        rw [decide_eq_true hm] at hcb
        have rj' : Hid (Rows wr w.heap.size wr.heap.size us (Perms.cycTo p (j + 1)).2) := Lib.hid (by rw [hst'.out]; exact rj.out)
        have Bj' : Hid (BoolsIn wr bb 4 p.length (fun i => decide (i ∈ (Perms.cycTo p (j + 1)).1))) := Lib.hid (by rw [hst'.out]; exact Bj.out)
        clear hst hm
        go_wp2_with fail
        go_roundg (gk1 - 1)
        case measure => omega
        case rel => exact ⟨j + 1, us, by go_num, oj, rj', Bj', bj, by omega, by omega⟩
      · rw [if_neg hm] at hst
        rw [decide_eq_false hm] at hcb
        have hslt : (Perms.cycTo p j).1.length < p.length := by
          have h := (hseen.out.push hj hm).len
          rw [List.length_append, List.length_singleton] at h
          omega
        obtain ⟨R, hRe⟩ : ∃ R, R = Perms.cycW p (p.length + 1 - (Perms.cycTo p j).1.length) j (Perms.cycTo p j).1 [] := ⟨_, rfl⟩
        rw [← hRe] at hst
        have hst' := Lib.hid hst
        have hR0 : Hid (Perms.cycW p (p.length + 1 - (Perms.cycTo p j).1.length) j (Perms.cycTo p j).1 [] = R) := Lib.hid hRe.symm
        clear hst hRe
        go_wp2_with fail
        have o1 := own_empty wr
        have b1' := below_alloc wr (.cells #[] 3)
        obtain ⟨V, hV⟩ : ∃ V, V = wr.heap.size := ⟨_, rfl⟩
        have hVw : w.heap.size ≤ V := by have := bj.size; omega
        have hbV : bb < V := by rw [hV]; exact Bj.out.lt
        have i0 : OwnInts (wr.alloc (.cells #[] 3)) V (.slice (some ⟨wr.heap.size, 0, none⟩) 0 0) [] := by rw [hV]; exact o1
        have i1 := Own.below oj b1'
        have i2 : Hid (Rows (wr.alloc (.cells #[] 3)) w.heap.size V us (Perms.cycTo p j).2) := Lib.hid (by rw [hV]; exact rj.out.below b1')
        have i3 := Lib.hid (Bj.out.below b1')
        have i4 := bj.trans (b1'.mono bj.size)
        have i5 : V ≤ (wr.alloc (.cells #[] 3)).heap.size := by rw [hV]; exact b1'.size
        obtain ⟨S0, hS0⟩ : ∃ S0, S0 = (Perms.cycTo p j).1 := ⟨_, rfl⟩
        obtain ⟨T0, hT0⟩ : ∃ T0, T0 = (Perms.cycTo p j).2 := ⟨_, rfl⟩
        rw [← hS0] at hm hslt hseen hR0 i3
        rw [← hT0] at i2 hst'
        clear hS0 hT0 oj rj Bj bj hV hm
        go_loopg [6, 7] (p.length - S0.length) (fun gg u6 u7 w2 => ∃ (a : Nat) (s : List Nat) (row : List Int), u7 = .int .i64 a ∧ a < p.length ∧ OwnInts w2 V u6 row ∧ Own w2 w.heap.size 38 (.slice a3 us.length c3) us ∧ Hid (Rows w2 w.heap.size V us T0) ∧ Hid (BoolsIn w2 bb 4 p.length (fun i => decide (i ∈ s))) ∧ Below w.heap.size w w2 ∧ V ≤ w2.heap.size ∧ Hid (Perms.Seen p.length s) ∧ row.length ≤ s.length ∧ s.length + gg = p.length ∧ Hid (Perms.cycW p (gg + 1) a s row = R))
        case atStart => exact ⟨j, S0, [], rfl, hj, i0, i1, i2, i3, i4, i5, hseen, by simp, by omega, Lib.hid (by rw [← hR0.out]; congr 1; omega)⟩
        case round =>
          obtain ⟨a, s, row, rfl, ha, ir, io, iR, iB, bi, hVs, hss, hrl, hsg, hcw⟩ := hrel
          obtain ⟨a6, c6, rfl, _, _, _⟩ := Own.form ir
          have haI : (a : Int) < p.length := by omega
          have hca := iB.out.cell ha
          have hfa := iB.out.frozen a
          have hss10 := hss.out.len
          by_cases hma : a ∈ s
          · rw [decide_eq_true hma] at hca
            have hR1 : Hid (R = (s, row)) := Lib.hid (by rw [← hcw.out]; unfold Perms.cycW; rw [if_pos hma])
            clear hma
            have ba := below_alloc wr (.cells #[.slice a6 (ints row).length c6] 38)
            have io3 := Own.below io ba
            have hr3 := row_one wr (.slice a6 (ints row).length c6) 38
            have hone : Hid (∀ y' ∈ [Value.slice a6 (ints row).length c6], y'.oneCell' = true) := Lib.hid (fun y' hy' => by rw [List.mem_singleton] at hy'; rw [hy']; rfl)
            have oy := Lib.hid (OwnInts.below ir ba)
            have iR3 := Lib.hid (iR.out.below ba)
            have bi3 := bi.trans (ba.mono bi.size)
            have iB3 := Lib.hid (iB.out.below ba)
            go_wp2_with (at_builtin; refine app_outer rfl (.tmp 42) (.tmp 44) rfl rfl io3 rfl hr3 hone.out (by show us.length + 1 ≤ 1099511627776; omega) bi3.size ?_; intro v5 w5 o5 g5)
            have r5 : Hid (Rows w5 w.heap.size w5.heap.size (us ++ [.slice a6 (ints row).length c6]) (Perms.cycTo p (j + 1)).2) := Lib.hid (by
              rw [hst'.out, hR1.out]
              exact (((iR3.out).push (xs := row) (OwnInts.mono oy.out hVw) (fun b hb => (Own.lt oy.out hb).1)).outer io3 g5).tight)
            have b5 := bi3.grown g5 bi3.size (fun b hb => (Own.lt io3 hb).1)
            have B5 : Hid (BoolsIn w5 bb 4 p.length (fun i => decide (i ∈ (Perms.cycTo p (j + 1)).1))) := Lib.hid (by
              rw [hst'.out, hR1.out]
              exact iB3.out.grown g5 (iB3.out.apartOf io3 (by decide)))
            go_roundg (gk1 - 1)
            case measure => omega
            case rel => exact ⟨j + 1, _, by go_num, o5, r5, B5, b5, by omega, by omega⟩
          · rw [decide_eq_false hma] at hca
            have hs2 := hss.out.push ha hma
            have hlt := hs2.len
            rw [List.length_append, List.length_singleton] at hlt
            have hcw2 : Hid (Perms.cycW p gk (p.getD a 0).toNat (s ++ [a]) (row ++ [(a : Int)]) = R) := Lib.hid (by
              rw [← hcw.out]
              conv => rhs; unfold Perms.cycW
              rw [if_neg hma])
            obtain ⟨bp, op, y, rfl, hy, hcy⟩ := hp0.out.cell (k := a) ha
            have hyr := hR'.out.2 y (List.mem_of_getElem? hy.out)
            obtain ⟨q, rfl⟩ : ∃ q : Nat, y = q := ⟨y.toNat, by omega⟩
            have hcw3 : Hid (Perms.cycW p gk q (s ++ [a]) (row ++ [(a : Int)]) = R) := Lib.hid (by
              rw [← hcw2.out]
              simp [List.getD, hy.out])
            have hs2' := Lib.hid hs2
            have jr : OwnInts (wr.setCell ⟨bb, a, none⟩ (.bool true)) V (.slice a6 (ints row).length c6) row := iB.out.keepOwn ir (by decide) _
            have jo := iB.out.keepOwn io (by decide) (.bool true) (k := a)
            have jR := Lib.hid (iB.out.keepRows iR.out (.bool true) (k := a))
            have jB : BoolsIn (wr.setCell ⟨bb, a, none⟩ (.bool true)) bb 4 p.length (fun i => decide (i ∈ s ++ [a])) := (iB.out.set a true).congr (fun i hi => by
              by_cases e : i = a
              · simp [e]
              · simp [e])
            have jB' := Lib.hid jB
            have bi2 := bi.setCell (p := ⟨bb, a, none⟩) hbb2 (.bool true)
            have hVs2 : V ≤ (wr.setCell ⟨bb, a, none⟩ (.bool true)).heap.size := by simp [World.setCell]; exact hVs
            have hcn : Hid (((wr.setCell ⟨bb, a, none⟩ (.bool true)).alloc (.cells #[.int .i64 (a : Int)] 3)).cell? ⟨wr.heap.size, 0, none⟩ = some (.int .i64 (a : Int))) := Lib.hid (by
              have h := cell_new (wr.setCell ⟨bb, a, none⟩ (.bool true)) (.int .i64 (a : Int)) 3
              have e : (wr.setCell ⟨bb, a, none⟩ (.bool true)).heap.size = wr.heap.size := by simp [World.setCell]
              rw [e] at h
              exact h)
            have ba := below_alloc (wr.setCell ⟨bb, a, none⟩ (.bool true)) (.cells #[.int .i64 (a : Int)] 3)
            have b6 := bi2.trans (ba.mono bi2.size)
            have kr := Lib.hid (OwnInts.below jr ba)
            have ko := Own.below jo ba
            have kR := Lib.hid (jR.out.below ba)
            have kB := Lib.hid (jB'.out.below ba)
            have kV : V ≤ ((wr.setCell ⟨bb, a, none⟩ (.bool true)).alloc (.cells #[.int .i64 (a : Int)] 3)).heap.size := by simp [World.setCell]; omega
            have hrl10 : row.length + 1 ≤ 17592186044416 := by omega
            clear hcw hcw2 hma hs2 jB jr jo jR jB'
            go_wp2_with (at_builtin; refine app_int rfl (.tmp 38) (.tmp 40) rfl rfl kr.out rfl hcn.out hrl10 kV ?_; intro v7 w7 o7 g7; have b7 := b6.grown g7 b6.size (fun b hb => by have := (Own.lt kr.out hb).1; omega); have hcy7 := below_cells b7 _ _ hcy)
            have ko7 := Own.grown ko g7 (own_types kr.out ko (by decide))
            have kR7 := Lib.hid (kR.out.grown g7 (fun k hk => .inr (Own.lt kr.out hk).1))
            have kB7 := Lib.hid (kB.out.grown g7 (kB.out.apartOf kr.out (by decide)))
            have kV7 : V ≤ w7.heap.size := Nat.le_trans kV g7.size
            have hqp : q < p.length := by omega
            have hrl7 : (row ++ [(a : Int)]).length ≤ (s ++ [a]).length := by simp; omega
            have hg7 : (s ++ [a]).length + (gk - 1) = p.length := by simp; omega
            have hcw7 : Hid (Perms.cycW p (gk - 1 + 1) q (s ++ [a]) (row ++ [(a : Int)]) = R) := Lib.hid (by rw [← hcw3.out]; congr 1; omega)
            go_roundg (gk - 1)
            case measure => omega
            case rel => exact ⟨q, _, _, by go_num, hqp, o7, ko7, kR7, kB7, b7, kV7, hs2', hrl7, hg7, hcw7⟩
    · have hje : j = p.length := by omega
      have h2 : OwnRows wr w.heap.size wr.heap.size (.slice a3 us.length c3) (Perms.cycles p) := by
        rw [hc.out, ← hje]
        exact rj.out.whole oj (Own.inBlk oj)
      have h3 := Lib.hid (H.out _ wr h2 bj)
      clear h2
      go_wp2_with fail
      exact h3.out
set_option maxHeartbeats 3200000 in
theorem CyclesOf_i {vp : Value} {p : List Int} {w : World} {Q : Ending → World → Prop} (hp : IntsAt w vp p)
    (hQ : ∀ v w', OwnRows w' w.heap.size w'.heap.size v (Perms.cycles p) → Below w.heap.size w w' → Q (.returned v) w') :
    Calls Try.prog 93 #[vp] w Q := by
  have H := Lib.hid hQ; clear hQ
  have hp0 := Lib.hid hp
  obtain ⟨ap, cp, rfl, lp, lcp, ccp⟩ := hp.form
  clear hp
  by_cases hok : Perms.permB p = true
  rotate_left
  · have hf : Perms.permB p = false := by simpa using hok
    have hf' := Lib.hid hf
    have hc : Hid (Perms.cycles p = []) := Lib.hid (by unfold Perms.cycles; rw [if_neg hok])
    clear hok hf
    go_enter Try.func93, Try.ntmps93
    go_wp2_with fail
    refine PermOk_i hp0.out ?_
    intro w1 b1
    rw [hf'.out]
    have h3 := Lib.hid (H.out (.slice none 0 0) w1 (by rw [hc.out]; exact OwnRows.nil _ _ _) b1)
    go_wp2_with fail
    exact h3.out
  have hpl := Perms.permB_len hok
  have hR : Perms.inR p.length p := ⟨rfl, Perms.permB_range hok⟩
  have hR' := Lib.hid hR
  have hok' := Lib.hid hok
  have hc : Hid (Perms.cycles p = (Perms.cycTo p p.length).2) := Lib.hid (by unfold Perms.cycles; rw [if_pos hok])
  clear hok hR
  go_enter Try.func93, Try.ntmps93
  go_wp2_with fail
  refine PermOk_i hp0.out ?_
  intro w1 b1
  rw [hok'.out]
  have o0 := own_outer_empty w1
  have b0 := below_alloc w1 (.cells #[] 38)
  have bw0 := b1.trans (b0.mono b1.size)
  go_wp2_with (at_make; refine mk_bools rfl (.tmp 13) (.tmp 13) rfl rfl rfl p.length rfl (by omega) ?_; intro w2 hB2 hb2 hs2)
  obtain ⟨bb, hbb⟩ : ∃ bb, bb = (w1.alloc (.cells #[] 38)).heap.size := ⟨_, rfl⟩
  have hbb2 : w.heap.size ≤ bb := by have := b1.size; rw [hbb]; simp; omega
  have hbb3 : bb = w1.heap.size + 1 := by rw [hbb]; simp
  have hB2' : Hid (BoolsIn w2 bb 4 p.length (fun i => decide (i ∈ (Perms.cycTo p 0).1))) := Lib.hid (by rw [hbb]; exact hB2.congr (fun i hi => by simp [Perms.cycTo]))
  have o2 : Own w2 w.heap.size 38 (.slice (some ⟨w1.heap.size, 0, none⟩) 0 0) [] := Own.mono (Own.below o0 hb2) b1.size
  have bw2 := bw0.trans (hb2.mono bw0.size)
  have R0 : Hid (Rows w2 w.heap.size w2.heap.size [] (Perms.cycTo p 0).2) := Lib.hid (Rows.nil w2 w.heap.size w2.heap.size)
  rw [← hbb3]
  clear hB2 o0 hbb hbb3
  go_wp2_with fail
  go_loopg [3, 17] p.length (fun gg u3 u17 wr => ∃ (j : Nat) (us : List Value), u17 = .int .i64 j ∧ Own wr w.heap.size 38 u3 us ∧ Hid (Rows wr w.heap.size wr.heap.size us (Perms.cycTo p j).2) ∧ Hid (BoolsIn wr bb 4 p.length (fun i => decide (i ∈ (Perms.cycTo p j).1))) ∧ Below w.heap.size w wr ∧ j + gg ≤ p.length ∧ p.length ≤ j + gg)
  case atStart => exact ⟨0, [], rfl, o2, R0, hB2', bw2, by omega, by omega⟩
  case round =>
    obtain ⟨j, us, rfl, oj, rj, Bj, bj, hj1, hj2⟩ := hrel
    obtain ⟨gk1, hgk1⟩ : ∃ g, g = gk := ⟨_, rfl⟩
    obtain ⟨a3, c3, rfl, _, _, _⟩ := Own.form oj
    have hul : us.length ≤ 10 := by have := Perms.cycTo_len p j; rw [rj.out.1]; omega
    by_cases hj : j < p.length
    · have hjI : (j : Int) < p.length := by omega
      have hcb := Bj.out.cell hj
      have hseen := Lib.hid (Perms.cycTo_seen hR'.out j (by omega))
      have hst : Perms.cycTo p (j + 1) = if j ∈ (Perms.cycTo p j).1 then Perms.cycTo p j else ((Perms.cycW p (p.length + 1 - (Perms.cycTo p j).1.length) j (Perms.cycTo p j).1 []).1, (Perms.cycTo p j).2 ++ [(Perms.cycW p (p.length + 1 - (Perms.cycTo p j).1.length) j (Perms.cycTo p j).1 []).2]) := rfl
      by_cases hm : j ∈ (Perms.cycTo p j).1
      · rw [if_pos hm] at hst
        have hst' := Lib.hid hst
        rw [decide_eq_true hm] at hcb
        have rj' : Hid (Rows wr w.heap.size wr.heap.size us (Perms.cycTo p (j + 1)).2) := Lib.hid (by rw [hst'.out]; exact rj.out)
        have Bj' : Hid (BoolsIn wr bb 4 p.length (fun i => decide (i ∈ (Perms.cycTo p (j + 1)).1))) := Lib.hid (by rw [hst'.out]; exact Bj.out)
        clear hst hm
        go_wp2_with fail
        go_roundg (gk1 - 1)
        case measure => omega
        case rel => exact ⟨j + 1, us, by go_num, oj, rj', Bj', bj, by omega, by omega⟩
      · rw [if_neg hm] at hst
        rw [decide_eq_false hm] at hcb
        have hslt : (Perms.cycTo p j).1.length < p.length := by
          have h := (hseen.out.push hj hm).len
          rw [List.length_append, List.length_singleton] at h
          omega
        obtain ⟨R, hRe⟩ : ∃ R, R = Perms.cycW p (p.length + 1 - (Perms.cycTo p j).1.length) j (Perms.cycTo p j).1 [] := ⟨_, rfl⟩
        rw [← hRe] at hst
        have hst' := Lib.hid hst
        have hR0 : Hid (Perms.cycW p (p.length + 1 - (Perms.cycTo p j).1.length) j (Perms.cycTo p j).1 [] = R) := Lib.hid hRe.symm
        clear hst hRe
        go_wp2_with fail
        have o1 := own_empty wr
        have b1' := below_alloc wr (.cells #[] 3)
        obtain ⟨V, hV⟩ : ∃ V, V = wr.heap.size := ⟨_, rfl⟩
        have hVw : w.heap.size ≤ V := by have := bj.size; omega
        have hbV : bb < V := by rw [hV]; exact Bj.out.lt
        have i0 : OwnInts (wr.alloc (.cells #[] 3)) V (.slice (some ⟨wr.heap.size, 0, none⟩) 0 0) [] := by rw [hV]; exact o1
        have i1 := Own.below oj b1'
        have i2 : Hid (Rows (wr.alloc (.cells #[] 3)) w.heap.size V us (Perms.cycTo p j).2) := Lib.hid (by rw [hV]; exact rj.out.below b1')
        have i3 := Lib.hid (Bj.out.below b1')
        have i4 := bj.trans (b1'.mono bj.size)
        have i5 : V ≤ (wr.alloc (.cells #[] 3)).heap.size := by rw [hV]; exact b1'.size
        obtain ⟨S0, hS0⟩ : ∃ S0, S0 = (Perms.cycTo p j).1 := ⟨_, rfl⟩
        obtain ⟨T0, hT0⟩ : ∃ T0, T0 = (Perms.cycTo p j).2 := ⟨_, rfl⟩
        rw [← hS0] at hm hslt hseen hR0 i3
        rw [← hT0] at i2 hst'
        clear hS0 hT0 oj rj Bj bj hV hm
        go_loopg [6, 7] (p.length - S0.length) (fun gg u6 u7 w2 => ∃ (a : Nat) (s : List Nat) (row : List Int), u7 = .int .i64 a ∧ a < p.length ∧ OwnInts w2 V u6 row ∧ Own w2 w.heap.size 38 (.slice a3 us.length c3) us ∧ Hid (Rows w2 w.heap.size V us T0) ∧ Hid (BoolsIn w2 bb 4 p.length (fun i => decide (i ∈ s))) ∧ Below w.heap.size w w2 ∧ V ≤ w2.heap.size ∧ Hid (Perms.Seen p.length s) ∧ row.length ≤ s.length ∧ s.length + gg = p.length ∧ Hid (Perms.cycW p (gg + 1) a s row = R))
        case atStart => exact ⟨j, S0, [], rfl, hj, i0, i1, i2, i3, i4, i5, hseen, by simp, by omega, Lib.hid (by rw [← hR0.out]; congr 1; omega)⟩
        case round =>
          obtain ⟨a, s, row, rfl, ha, ir, io, iR, iB, bi, hVs, hss, hrl, hsg, hcw⟩ := hrel
          obtain ⟨a6, c6, rfl, _, _, _⟩ := Own.form ir
          have haI : (a : Int) < p.length := by omega
          have hca := iB.out.cell ha
          have hfa := iB.out.frozen a
          have hss10 := hss.out.len
          by_cases hma : a ∈ s
          · rw [decide_eq_true hma] at hca
            have hR1 : Hid (R = (s, row)) := Lib.hid (by rw [← hcw.out]; unfold Perms.cycW; rw [if_pos hma])
            clear hma
            have ba := below_alloc wr (.cells #[.slice a6 (ints row).length c6] 38)
            have io3 := Own.below io ba
            have hr3 := row_one wr (.slice a6 (ints row).length c6) 38
            have hone : Hid (∀ y' ∈ [Value.slice a6 (ints row).length c6], y'.oneCell' = true) := Lib.hid (fun y' hy' => by rw [List.mem_singleton] at hy'; rw [hy']; rfl)
            have oy := Lib.hid (OwnInts.below ir ba)
            have iR3 := Lib.hid (iR.out.below ba)
            have bi3 := bi.trans (ba.mono bi.size)
            have iB3 := Lib.hid (iB.out.below ba)
            go_wp2_with (at_builtin; refine app_outer rfl (.tmp 42) (.tmp 44) rfl rfl io3 rfl hr3 hone.out (by show us.length + 1 ≤ 1099511627776; omega) bi3.size ?_; intro v5 w5 o5 g5)
            have r5 : Hid (Rows w5 w.heap.size w5.heap.size (us ++ [.slice a6 (ints row).length c6]) (Perms.cycTo p (j + 1)).2) := Lib.hid (by
              rw [hst'.out, hR1.out]
              exact (((iR3.out).push (xs := row) (OwnInts.mono oy.out hVw) (fun b hb => (Own.lt oy.out hb).1)).outer io3 g5).tight)
            have b5 := bi3.grown g5 bi3.size (fun b hb => (Own.lt io3 hb).1)
            have B5 : Hid (BoolsIn w5 bb 4 p.length (fun i => decide (i ∈ (Perms.cycTo p (j + 1)).1))) := Lib.hid (by
              rw [hst'.out, hR1.out]
              exact iB3.out.grown g5 (iB3.out.apartOf io3 (by decide)))
            go_roundg (gk1 - 1)
            case measure => omega
            case rel => exact ⟨j + 1, _, by go_num, o5, r5, B5, b5, by omega, by omega⟩
          · rw [decide_eq_false hma] at hca
            have hs2 := hss.out.push ha hma
            have hlt := hs2.len
            rw [List.length_append, List.length_singleton] at hlt
            have hcw2 : Hid (Perms.cycW p gk (p.getD a 0).toNat (s ++ [a]) (row ++ [(a : Int)]) = R) := Lib.hid (by
              rw [← hcw.out]
              conv => rhs; unfold Perms.cycW
              rw [if_neg hma])
            obtain ⟨bp, op, y, rfl, hy, hcy⟩ := hp0.out.cell (k := a) ha
            have hyr := hR'.out.2 y (List.mem_of_getElem? hy.out)
            obtain ⟨q, rfl⟩ : ∃ q : Nat, y = q := ⟨y.toNat, by omega⟩
            have hcw3 : Hid (Perms.cycW p gk q (s ++ [a]) (row ++ [(a : Int)]) = R) := Lib.hid (by
              rw [← hcw2.out]
              simp [List.getD, hy.out])
            have hs2' := Lib.hid hs2
            have jr : OwnInts (wr.setCell ⟨bb, a, none⟩ (.bool true)) V (.slice a6 (ints row).length c6) row := iB.out.keepOwn ir (by decide) _
            have jo := iB.out.keepOwn io (by decide) (.bool true) (k := a)
            have jR := Lib.hid (iB.out.keepRows iR.out (.bool true) (k := a))
            have jB : BoolsIn (wr.setCell ⟨bb, a, none⟩ (.bool true)) bb 4 p.length (fun i => decide (i ∈ s ++ [a])) := (iB.out.set a true).congr (fun i hi => by
              by_cases e : i = a
              · simp [e]
              · simp [e])
            have jB' := Lib.hid jB
            have bi2 := bi.setCell (p := ⟨bb, a, none⟩) hbb2 (.bool true)
            have hVs2 : V ≤ (wr.setCell ⟨bb, a, none⟩ (.bool true)).heap.size := by simp [World.setCell]; exact hVs
            have hcn : Hid (((wr.setCell ⟨bb, a, none⟩ (.bool true)).alloc (.cells #[.int .i64 (a : Int)] 3)).cell? ⟨wr.heap.size, 0, none⟩ = some (.int .i64 (a : Int))) := Lib.hid (by
              have h := cell_new (wr.setCell ⟨bb, a, none⟩ (.bool true)) (.int .i64 (a : Int)) 3
              have e : (wr.setCell ⟨bb, a, none⟩ (.bool true)).heap.size = wr.heap.size := by simp [World.setCell]
              rw [e] at h
              exact h)
            have ba := below_alloc (wr.setCell ⟨bb, a, none⟩ (.bool true)) (.cells #[.int .i64 (a : Int)] 3)
            have b6 := bi2.trans (ba.mono bi2.size)
            have kr := Lib.hid (OwnInts.below jr ba)
            have ko := Own.below jo ba
            have kR := Lib.hid (jR.out.below ba)
            have kB := Lib.hid (jB'.out.below ba)
            have kV : V ≤ ((wr.setCell ⟨bb, a, none⟩ (.bool true)).alloc (.cells #[.int .i64 (a : Int)] 3)).heap.size := by simp [World.setCell]; omega
            have hrl10 : row.length + 1 ≤ 17592186044416 := by omega
            clear hcw hcw2 hma hs2 jB jr jo jR jB'
            go_wp2_with (at_builtin; refine app_int rfl (.tmp 38) (.tmp 40) rfl rfl kr.out rfl hcn.out hrl10 kV ?_; intro v7 w7 o7 g7; have b7 := b6.grown g7 b6.size (fun b hb => by have := (Own.lt kr.out hb).1; omega); have hcy7 := below_cells b7 _ _ hcy)
            have ko7 := Own.grown ko g7 (own_types kr.out ko (by decide))
            have kR7 := Lib.hid (kR.out.grown g7 (fun k hk => .inr (Own.lt kr.out hk).1))
            have kB7 := Lib.hid (kB.out.grown g7 (kB.out.apartOf kr.out (by decide)))
            have kV7 : V ≤ w7.heap.size := Nat.le_trans kV g7.size
            have hqp : q < p.length := by omega
            have hrl7 : (row ++ [(a : Int)]).length ≤ (s ++ [a]).length := by simp; omega
            have hg7 : (s ++ [a]).length + (gk - 1) = p.length := by simp; omega
            have hcw7 : Hid (Perms.cycW p (gk - 1 + 1) q (s ++ [a]) (row ++ [(a : Int)]) = R) := Lib.hid (by rw [← hcw3.out]; congr 1; omega)
            go_roundg (gk - 1)
            case measure => omega
            case rel => exact ⟨q, _, _, by go_num, hqp, o7, ko7, kR7, kB7, b7, kV7, hs2', hrl7, hg7, hcw7⟩
    · have hje : j = p.length := by omega
      have h2 : OwnRows wr w.heap.size wr.heap.size (.slice a3 us.length c3) (Perms.cycles p) := by
        rw [hc.out, ← hje]
        exact rj.out.whole oj (Own.inBlk oj)
      have h3 := Lib.hid (H.out _ wr h2 bj)
      clear h2
      go_wp2_with fail
      exact h3.out
end Go.Proofs.Ytdjdagcgodpgdaa
