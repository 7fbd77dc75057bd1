/-
  The orbits of a group of permutations, as the program finds them.
-/
import Derived.Test.YtdjdagcgodpgdaaCyc
import Derived.Test.YtdjdagcgodpgdaaSortI
import Derived.Test.YtdjdagcgodpgdaaGrp2
set_option linter.unusedVariables false
namespace Go.Proofs.Ytdjdagcgodpgdaa
open Go.RowKit

def Perms.orbS (g : List (List Int)) (j : Nat) (s0 : List Nat) : Nat → List Nat × List Int
  | 0 => (s0, [])
  | t + 1 =>
    let s := Perms.orbS g j s0 t
    let y := ((g.getD t []).getD j 0).toNat
    if y ∈ s.1 then s else (s.1 ++ [y], s.2 ++ [(y : Int)])
def Perms.orbTo (g : List (List Int)) : Nat → List Nat × List (List Int)
  | 0 => ([], [])
  | j + 1 =>
    let s := Perms.orbTo g j
    if j ∈ s.1 then s else
      let r := Perms.orbS g j s.1 g.length
      (r.1, s.2 ++ [Perms.srt r.2])
theorem Perms.orbTo_len (g : List (List Int)) : ∀ j, (Perms.orbTo g j).2.length ≤ j
  | 0 => by simp [Perms.orbTo]
  | j + 1 => by
    have ih := Perms.orbTo_len g j
    unfold Perms.orbTo
    by_cases hs : j ∈ (Perms.orbTo g j).1
    · rw [if_pos hs]; omega
    · rw [if_neg hs]; simp; omega
theorem Perms.orbS_len (g : List (List Int)) (j : Nat) (s0 : List Nat) : ∀ t, (Perms.orbS g j s0 t).2.length ≤ t
  | 0 => by simp [Perms.orbS]
  | t + 1 => by
    have ih := Perms.orbS_len g j s0 t
    unfold Perms.orbS
    by_cases hs : ((g.getD t []).getD j 0).toNat ∈ (Perms.orbS g j s0 t).1
    · rw [if_pos hs]; omega
    · rw [if_neg hs]; simp; omega
set_option maxHeartbeats 3200000 in
theorem OrbitsOf_i {vg : Value} {g : List (List Int)} {n : Nat} {w : World} {Q : Ending → World → Prop} (hg : RowsAt w vg g) (hok : Perms.grpB g = true) (hn : (Perms.row0 g).length = n)
    (hne : ∀ j, j < n → j ∉ (Perms.orbTo g j).1 → 0 < (Perms.orbS g j (Perms.orbTo g j).1 g.length).2.length)
    (hQ : ∀ v w', OwnRows w' w.heap.size w'.heap.size v (Perms.orbTo g n).2 → Below w.heap.size w w' → Q (.returned v) w') :
    Calls Try.prog 24 #[vg] w Q := by
  have H := Lib.hid hQ; clear hQ
  have hg0 := Lib.hid hg
  obtain ⟨ag, cg, rfl, lg, lcg, ccg⟩ := hg.form
  clear hg
  have G := Perms.grpB_grp hok
  obtain ⟨hl1, hl2, _, _⟩ := Perms.grpB_parts hok
  have hR : Hid (∀ p ∈ g, p.length = n ∧ ∀ x ∈ p, 0 ≤ x ∧ x < (n : Int)) := Lib.hid (fun p hp => ⟨by rw [← hn]; exact G.len p hp, by rw [← hn, ← G.len p hp]; exact Perms.permB_range (G.perm p hp)⟩)
  have hn10 : 1 ≤ n ∧ n ≤ 10 := by
    have := Perms.row0_len hok
    rw [hn] at this
    omega
  have hok' := Lib.hid hok
  have hne' := Lib.hid hne
  obtain ⟨b0', f0', u0, x0, e0, hx0, hcx0, hux0⟩ := hg0.out.cell (k := 0) (by omega)
  cases e0
  have hx0l : x0.length = n := (hR.out x0 (List.mem_of_getElem? hx0.out)).1
  obtain ⟨ax0, cx0, rfl, _, _, _⟩ := hux0.form
  rw [hx0l, Nat.add_zero] at hcx0
  have hg1 : Hid (RowsAt w (.slice (some ⟨b0', f0', none⟩) g.length cg) g) := hg0
  clear hok hne G hn hux0 hx0l hg0
  go_enter Try.func24, Try.ntmps24
  go_wp2_with fail
  refine GroupOk_i hg1.out ?_
  intro w1 b1
  rw [hok'.out]
  have o0 := own_outer_empty w1
  have b0 := below_alloc w1 (.cells #[] 38)
  have bw0 := b1.trans (b0.mono b1.size)
  have hcx1 := below_cells bw0 _ _ hcx0
  go_wp2_with (at_make; refine mk_bools rfl (.tmp 16) (.tmp 16) rfl rfl rfl n rfl (by omega) ?_; intro w2 hB2 hb2 hs2)
  obtain ⟨bb, hbb⟩ : ∃ bb, bb = (w1.alloc (.cells #[] 38)).heap.size := ⟨_, rfl⟩
  have hbb2 : w.heap.size ≤ bb := by have := b1.size; rw [hbb]; simp; omega
  have hbb3 : bb = w1.heap.size + 1 := by rw [hbb]; simp
  have hB2' : Hid (BoolsIn w2 bb 4 n (fun i => decide (i ∈ (Perms.orbTo g 0).1))) := Lib.hid (by rw [hbb]; exact hB2.congr (fun i hi => by simp [Perms.orbTo]))
  have o2 : Own w2 w.heap.size 38 (.slice (some ⟨w1.heap.size, 0, none⟩) 0 0) [] := Own.mono (Own.below o0 hb2) b1.size
  have bw2 := bw0.trans (hb2.mono bw0.size)
  have R0 : Hid (Rows w2 w.heap.size w2.heap.size [] (Perms.orbTo g 0).2) := Lib.hid (Rows.nil w2 w.heap.size w2.heap.size)
  rw [← hbb3]
  clear hB2 o0 hbb hbb3 hcx0 hcx1
  go_wp2_with fail
  go_loopg [3, 20] n (fun gg u3 u20 wr => ∃ (j : Nat) (us : List Value), u20 = .int .i64 j ∧ Own wr w.heap.size 38 u3 us ∧ Hid (Rows wr w.heap.size wr.heap.size us (Perms.orbTo g j).2) ∧ Hid (BoolsIn wr bb 4 n (fun i => decide (i ∈ (Perms.orbTo g j).1))) ∧ Below w.heap.size w wr ∧ j + gg ≤ n ∧ n ≤ j + gg)
  case atStart => exact ⟨0, [], rfl, o2, R0, hB2', bw2, by omega, by omega⟩
  case round =>
    obtain ⟨j, us, rfl, oj, rj, Bj, bj, hj1, hj2⟩ := hrel
    obtain ⟨gk1, hgk1⟩ : ∃ g, g = gk := ⟨_, rfl⟩
    obtain ⟨a3, c3, rfl, _, _, _⟩ := Own.form oj
    have hul : us.length ≤ 10 := by have := Perms.orbTo_len g j; rw [rj.out.1]; omega
    by_cases hj : j < n
    · have hjI : (j : Int) < n := by omega
      have hcb := Bj.out.cell hj
      have hst : Perms.orbTo g (j + 1) = if j ∈ (Perms.orbTo g j).1 then Perms.orbTo g j else ((Perms.orbS g j (Perms.orbTo g j).1 g.length).1, (Perms.orbTo g j).2 ++ [Perms.srt (Perms.orbS g j (Perms.orbTo g j).1 g.length).2]) := rfl
      by_cases hm : j ∈ (Perms.orbTo g j).1
      · rw [if_pos hm] at hst
        have hst' := Lib.hid hst
        rw [decide_eq_true hm] at hcb
        have rj' : Hid (Rows wr w.heap.size wr.heap.size us (Perms.orbTo g (j + 1)).2) := Lib.hid (by rw [hst'.out]; exact rj.out)
        have Bj' : Hid (BoolsIn wr bb 4 n (fun i => decide (i ∈ (Perms.orbTo g (j + 1)).1))) := Lib.hid (by rw [hst'.out]; exact Bj.out)
        clear hst hm
        go_wp2_with fail
        go_roundg (gk1 - 1)
        case measure => omega
        case rel => exact ⟨j + 1, us, by go_num, oj, rj', Bj', bj, by omega, by omega⟩
      · rw [if_neg hm] at hst
        rw [decide_eq_false hm] at hcb
        have hpos := Lib.hid (hne'.out j hj hm)
        obtain ⟨S0, hS0⟩ : ∃ S0, S0 = (Perms.orbTo g j).1 := ⟨_, rfl⟩
        obtain ⟨T0, hT0⟩ : ∃ T0, T0 = (Perms.orbTo g j).2 := ⟨_, rfl⟩
        rw [← hS0, ← hT0] at hst
        rw [← hS0] at hpos
        have hst' := Lib.hid hst
        clear hst hm
        go_wp2_with fail
        have o1 := own_empty wr
        have b1' := below_alloc wr (.cells #[] 3)
        obtain ⟨V, hV⟩ : ∃ V, V = wr.heap.size := ⟨_, rfl⟩
        have hVw : w.heap.size ≤ V := by have := bj.size; omega
        have hbV : bb < V := by rw [hV]; exact Bj.out.lt
        have i0 : OwnInts (wr.alloc (.cells #[] 3)) V (.slice (some ⟨wr.heap.size, 0, none⟩) 0 0) (Perms.orbS g j S0 0).2 := by rw [hV]; exact o1
        have i1 := Own.below oj b1'
        have i2 : Hid (Rows (wr.alloc (.cells #[] 3)) w.heap.size V us T0) := Lib.hid (by rw [hV, hT0]; exact rj.out.below b1')
        have i3 : Hid (BoolsIn (wr.alloc (.cells #[] 3)) bb 4 n (fun i => decide (i ∈ (Perms.orbS g j S0 0).1))) := Lib.hid (by rw [hS0]; exact Bj.out.below b1')
        have i4 := bj.trans (b1'.mono bj.size)
        have i5 : V ≤ (wr.alloc (.cells #[] 3)).heap.size := by rw [hV]; exact b1'.size
        clear hS0 hT0 oj rj Bj bj hV hcb
        go_loopg [6, 30] g.length (fun gg u6 u30 w2 => ∃ (t : Nat), u30 = .int .i64 t ∧ OwnInts w2 V u6 (Perms.orbS g j S0 t).2 ∧ Own w2 w.heap.size 38 (.slice a3 us.length c3) us ∧ Hid (Rows w2 w.heap.size V us T0) ∧ Hid (BoolsIn w2 bb 4 n (fun i => decide (i ∈ (Perms.orbS g j S0 t).1))) ∧ Below w.heap.size w w2 ∧ V ≤ w2.heap.size ∧ t + gg ≤ g.length ∧ g.length ≤ t + gg)
        case atStart => exact ⟨0, rfl, i0, i1, i2, i3, i4, i5, by omega, by omega⟩
        case round =>
          obtain ⟨t, rfl, ir, io, iR, iB, bi, hVs, ht1, ht2⟩ := hrel
          obtain ⟨a6, c6, rfl, _, _, _⟩ := Own.form ir
          have hsl := Perms.orbS_len g j S0 t
          by_cases ht : t < g.length
          · have htI : (t : Int) < g.length := by omega
            obtain ⟨b7, f7, u, x, e7, hx, hcx, hux⟩ := hg1.out.cell ht
            cases e7
            obtain ⟨ax, cx, rfl, _, _, _⟩ := hux.form
            obtain ⟨hxl, hxr⟩ := hR.out x (List.mem_of_getElem? hx.out)
            obtain ⟨bx, ox, y, rfl, hy, hcy⟩ := hux.cell (k := j) (by omega)
            obtain ⟨hy0, hy1⟩ := hxr y (List.mem_of_getElem? hy.out)
            obtain ⟨q, rfl⟩ : ∃ q : Nat, y = q := ⟨y.toNat, by omega⟩
            have hqn : q < n := by omega
            have hqI : (q : Int) < n := by omega
            rw [hxl] at hcx
            have hcxw := Lib.hid hcx
            have hcyw := Lib.hid hcy
            replace hcx := below_cells bi _ _ hcx
            replace hcy := below_cells bi _ _ hcy
            have hcq := iB.out.cell hqn
            have hfq := iB.out.frozen q
            have hst2 : Perms.orbS g j S0 (t + 1) = if q ∈ (Perms.orbS g j S0 t).1 then Perms.orbS g j S0 t else ((Perms.orbS g j S0 t).1 ++ [q], (Perms.orbS g j S0 t).2 ++ [(q : Int)]) := by
              have e1 : g.getD t [] = x := by simp [List.getD, hx.out]
              have e2 : (x.getD j 0).toNat = q := by simp [List.getD, hy.out]
              show (if ((g.getD t []).getD j 0).toNat ∈ _ then _ else _) = _
              rw [e1, e2]
            clear hux hxl hxr
            by_cases hmq : q ∈ (Perms.orbS g j S0 t).1
            · rw [if_pos hmq] at hst2
              rw [decide_eq_true hmq] at hcq
              have hst3 := Lib.hid hst2
              have ir3 : Hid (OwnInts wr V (.slice a6 (ints (Perms.orbS g j S0 t).2).length c6) (Perms.orbS g j S0 (t + 1)).2) := Lib.hid (by rw [hst3.out]; exact ir)
              have iB3 : Hid (BoolsIn wr bb 4 n (fun i => decide (i ∈ (Perms.orbS g j S0 (t + 1)).1))) := Lib.hid (by rw [hst3.out]; exact iB.out)
              clear hst2 hmq
              go_wp2_with fail
              go_roundg (gk - 1)
              case measure => omega
              case rel => exact ⟨t + 1, by go_num, ir3.out, io, iR, iB3, bi, hVs, by omega, by omega⟩
            · rw [if_neg hmq] at hst2
              rw [decide_eq_false hmq] at hcq
              have hst3 := Lib.hid hst2
              obtain ⟨s, hs⟩ : ∃ s, s = (Perms.orbS g j S0 t).1 := ⟨_, rfl⟩
              obtain ⟨row, hrow⟩ : ∃ row, row = (Perms.orbS g j S0 t).2 := ⟨_, rfl⟩
              rw [← hs, ← hrow] at hst3
              rw [← hrow] at ir hsl ⊢
              rw [← hs] at iB
              have jr : OwnInts (wr.setCell ⟨bb, q, none⟩ (.bool true)) V (.slice a6 (ints row).length c6) row := iB.out.keepOwn ir (by decide) _
              have jo := iB.out.keepOwn io (by decide) (.bool true) (k := q)
              have jR := Lib.hid (iB.out.keepRows iR.out (.bool true) (k := q))
              have jB : BoolsIn (wr.setCell ⟨bb, q, none⟩ (.bool true)) bb 4 n (fun i => decide (i ∈ s ++ [q])) := (iB.out.set q true).congr (fun i hi => by
                by_cases e : i = q
                · simp [e]
                · simp [e])
              have jB' := Lib.hid jB
              have bi2 := bi.setCell (p := ⟨bb, q, none⟩) hbb2 (.bool true)
              have hcy2 := below_cells bi2 _ _ hcyw.out
              have hcn : Hid (((wr.setCell ⟨bb, q, none⟩ (.bool true)).alloc (.cells #[.int .i64 (q : Int)] 3)).cell? ⟨wr.heap.size, 0, none⟩ = some (.int .i64 (q : Int))) := Lib.hid (by
                have h := cell_new (wr.setCell ⟨bb, q, none⟩ (.bool true)) (.int .i64 (q : Int)) 3
                have e : (wr.setCell ⟨bb, q, none⟩ (.bool true)).heap.size = wr.heap.size := by simp [World.setCell]
                rw [e] at h
                exact h)
              have ba := below_alloc (wr.setCell ⟨bb, q, none⟩ (.bool true)) (.cells #[.int .i64 (q : Int)] 3)
              have b6 := bi2.trans (ba.mono bi2.size)
              have kr := Lib.hid (OwnInts.below jr ba)
              have ko := Own.below jo ba
              have kR := Lib.hid (jR.out.below ba)
              have kB := Lib.hid (jB'.out.below ba)
              have kV : V ≤ ((wr.setCell ⟨bb, q, none⟩ (.bool true)).alloc (.cells #[.int .i64 (q : Int)] 3)).heap.size := by simp [World.setCell]; omega
              have hrl10 : row.length + 1 ≤ 17592186044416 := by omega
              have hB2x : ∀ (w' : World), (∀ k, k < w.heap.size → w'.heap[k]? = wr.heap[k]?) → True := fun _ _ => trivial
              clear hst2 hmq hs hrow jB jr jo jR jB' hB2x
              go_wp2_with (at_builtin; refine app_int rfl (.tmp 48) (.tmp 53) rfl rfl kr.out rfl hcn.out hrl10 kV ?_; intro v7 w7 o7 g7)
              have b7 := b6.grown g7 b6.size (fun b hb => by have := (Own.lt kr.out hb).1; omega)
              have ko7 := Own.grown ko g7 (own_types kr.out ko (by decide))
              have kR7 := Lib.hid (kR.out.grown g7 (fun k hk => .inr (Own.lt kr.out hk).1))
              have kB7 : Hid (BoolsIn w7 bb 4 n (fun i => decide (i ∈ (Perms.orbS g j S0 (t + 1)).1))) := Lib.hid (by rw [hst3.out]; exact kB.out.grown g7 (kB.out.apartOf kr.out (by decide)))
              have o8 : Hid (OwnInts w7 V v7 (Perms.orbS g j S0 (t + 1)).2) := Lib.hid (by rw [hst3.out]; exact o7)
              have kV7 : V ≤ w7.heap.size := Nat.le_trans kV g7.size
              go_roundg (gk - 1)
              case measure => omega
              case rel => exact ⟨t + 1, by go_num, o8.out, ko7, kR7, kB7, b7, kV7, by omega, by omega⟩
          · have hte : t = g.length := by omega
            rw [hte] at ir iB hsl
            obtain ⟨R, hR2⟩ : ∃ R, R = Perms.orbS g j S0 g.length := ⟨_, rfl⟩
            rw [← hR2] at hpos hst' ir iB hsl
            have hRe : Hid (Perms.orbS g j S0 t = R) := Lib.hid (by rw [hte, hR2])
            rw [hRe.out]
            have hn0 : 0 < R.2.length := hpos.out
            have hn1 : R.2.length ≤ 1048576 := by omega
            obtain ⟨row, hrow⟩ : ∃ row, row = R.2 := ⟨_, rfl⟩
            rw [← hrow] at ir hn0 hn1 hst' ⊢
            clear hR2 hRe hpos hsl hrow hte
            go_wp2_with fail
            refine sortI_c ir hVs hn0 hn1 ?_
            intro w3 o3 b3 g3
            have bi3 := bi.trans (b3.mono hVw)
            have io3 := Own.grown io g3 (own_types ir io (by decide))
            have iR3 := Lib.hid (iR.out.grown g3 (fun k hk => .inr (Own.lt ir hk).1))
            have iB3 := Lib.hid (iB.out.grown g3 (iB.out.apartOf ir (by decide)))
            have ba := below_alloc w3 (.cells #[.slice a6 (ints row).length c6] 38)
            have io4 := Own.below io3 ba
            have hr3 := row_one w3 (.slice a6 (ints row).length c6) 38
            have hone : Hid (∀ y' ∈ [Value.slice a6 (ints row).length c6], y'.oneCell' = true) := Lib.hid (fun y' hy' => by rw [List.mem_singleton] at hy'; rw [hy']; rfl)
            have oy := Lib.hid (OwnInts.below o3 ba)
            have iR4 := Lib.hid (iR3.out.below ba)
            have bi4 := bi3.trans (ba.mono bi3.size)
            have iB4 := Lib.hid (iB3.out.below ba)
            clear io ir iR iB o3 io3 iR3 iB3 b3 g3
            go_wp2_with (at_builtin; refine app_outer rfl (.tmp 58) (.tmp 60) rfl rfl io4 rfl hr3 hone.out (by show us.length + 1 ≤ 1099511627776; omega) bi4.size ?_; intro v5 w5 o5 g5)
            have r5 : Hid (Rows w5 w.heap.size w5.heap.size (us ++ [.slice a6 (ints row).length c6]) (Perms.orbTo g (j + 1)).2) := Lib.hid (by
              rw [hst'.out]
              exact (((iR4.out).push (xs := Perms.srt row) (OwnInts.mono oy.out hVw) (fun b hb => (Own.lt oy.out hb).1)).outer io4 g5).tight)
            have b5 := bi4.grown g5 bi4.size (fun b hb => (Own.lt io4 hb).1)
            have B5 : Hid (BoolsIn w5 bb 4 n (fun i => decide (i ∈ (Perms.orbTo g (j + 1)).1))) := Lib.hid (by
              rw [hst'.out]
              exact iB4.out.grown g5 (iB4.out.apartOf io4 (by decide)))
            go_roundg (gk1 - 1)
            case measure => omega
            case rel => exact ⟨j + 1, _, by go_num, o5, r5, B5, b5, by omega, by omega⟩
    · have hje : j = n := by omega
      have h2 : OwnRows wr w.heap.size wr.heap.size (.slice a3 us.length c3) (Perms.orbTo g n).2 := by
        rw [← hje]
        exact rj.out.whole oj (Own.inBlk oj)
      have h3 := Lib.hid (H.out _ wr h2 bj)
      clear h2
      go_wp2_with fail
      exact h3.out
end Go.Proofs.Ytdjdagcgodpgdaa
