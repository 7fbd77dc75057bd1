/-
  What a permutation of four points does to pairs of them, as the program finds it.
-/
import Derived.Test.YtdjdagcgodpgdaaGreatSubI
import Derived.Test.YtdjdagcgodpgdaaGreatSortI
import Derived.Test.YtdjdagcgodpgdaaGreatPairS
import Derived.Test.YtdjdagcgodpgdaaGreatFind
set_option linter.unusedVariables false
namespace Go.Proofs.YtdjdagcgodpgdaaGreat
open Go.RowKit

def Perms.mvTo (p : List Int) (L : List (List Int)) (j : Nat) : List Int := (L.take j).map fun x => Perms.idx L (Perms.srt (Perms.img p x))
def Perms.mvAct (p : List Int) : List Int := Perms.mvTo p (Perms.subs 2 0) (Perms.subs 2 0).length
theorem Perms.mvTo_step {p x : List Int} {L : List (List Int)} {j : Nat} (hx : L[j]? = some x) : Perms.mvTo p L (j + 1) = Perms.mvTo p L j ++ [Perms.idx L (Perms.srt (Perms.img p x))] := by
  unfold Perms.mvTo
  rw [List.take_add_one, hx, List.map_append]
  rfl
theorem Perms.mvTo_len (p : List Int) (L : List (List Int)) (j : Nat) : (Perms.mvTo p L j).length ≤ L.length := by
  unfold Perms.mvTo
  rw [List.length_map, List.length_take]
  omega
theorem PairsOf_c {w : World} {Q : Ending → World → Prop}
    (hQ : ∀ v w', OwnRows w' w.heap.size w'.heap.size v (Perms.subs 2 0) → Below w.heap.size w w' → Q (.returned v) w') :
    Calls Tryz.prog 64 #[.int .i64 4] w Q := by
  have H := Lib.hid hQ; clear hQ
  go_enter Tryz.func64, Tryz.ntmps64
  go_wp2_with fail
  refine subsetsOf_c ?_
  intro v w1 o1 b1
  have h3 := Lib.hid (H.out v w1 o1 b1)
  go_wp2_with fail
  exact h3.out
set_option maxHeartbeats 3200000 in
theorem moved_c {vL vp : Value} {L : List (List Int)} {p : List Int} {w : World} {Q : Ending → World → Prop} (hL : RowsAt w vL L) (hp : IntsAt w vp p) (hpl : p.length = 4) (hLl : L.length ≤ 64) (hasc : Perms.Asc L)
    (hrng : ∀ x ∈ L, x.length = 2 ∧ ∀ c ∈ x, 0 ≤ c ∧ c < ((4 : Nat) : Int))
    (hQ : ∀ v w', OwnInts w' w.heap.size v (Perms.mvTo p L L.length) → Below w.heap.size w w' → Q (.returned v) w') :
    Calls Tryz.prog 63 #[vL, vp] w Q := by
  have H := Lib.hid hQ; clear hQ
  have hL0 := Lib.hid hL
  have hp0 := Lib.hid hp
  have hasc' := Lib.hid hasc
  have hrng' := Lib.hid hrng
  obtain ⟨aL, cL, rfl, lL, lcL, ccL⟩ := hL.form
  obtain ⟨ap, cp, rfl, lp, lcp, ccp⟩ := hp.form
  have hpl' := Lib.hid hpl
  clear hL hp hasc hrng hpl
  go_enter Tryz.func63, Tryz.ntmps63
  go_wp2_with fail
  have o0 := own_empty w
  have b0 := below_alloc w (.cells #[] 3)
  have o0' : OwnInts (w.alloc (.cells #[] 3)) w.heap.size (.slice (some ⟨w.heap.size, 0, none⟩) 0 0) (Perms.mvTo p L 0) := o0
  go_loopg [5, 14] L.length (fun gg u5 u14 wr => ∃ (j : Nat), u14 = .int .i64 j ∧ OwnInts wr w.heap.size u5 (Perms.mvTo p L j) ∧ Below w.heap.size w wr ∧ j + gg ≤ L.length ∧ L.length ≤ j + gg)
  case atStart => exact ⟨0, rfl, o0', b0, by omega, by omega⟩
  case round =>
    obtain ⟨j, rfl, oj, bj, hj1, hj2⟩ := hrel
    obtain ⟨gk1, hgk1⟩ : ∃ g, g = gk := ⟨_, rfl⟩
    obtain ⟨a5, c5, rfl, _, _, _⟩ := Own.form oj
    have hml := Perms.mvTo_len p L j
    by_cases hj : j < L.length
    · have hjI : (j : Int) < L.length := by omega
      obtain ⟨b7, f7, u, x, e7, hx, hcx, hux⟩ := (hL0.out.below bj).cell hj
      cases e7
      obtain ⟨ax, cx, rfl, _, _, _⟩ := hux.form
      have hst := Lib.hid (Perms.mvTo_step (p := p) hx.out)
      have hxl := (hrng'.out x (List.mem_of_getElem? hx.out)).1
      have hxr := Lib.hid (hrng'.out x (List.mem_of_getElem? hx.out)).2
      rw [hxl] at hux hcx
      have hxl' := Lib.hid hxl
      clear hxl
      go_wp2_with fail
      have o1 := own_empty wr
      have b1 := below_alloc wr (.cells #[] 3)
      obtain ⟨V, hV⟩ : ∃ V, V = wr := ⟨_, rfl⟩
      have BJ : Below w.heap.size w V := by rw [hV]; exact bj
      have OJ : Own V w.heap.size 3 (.slice a5 (ints (Perms.mvTo p L j)).length c5) (ints (Perms.mvTo p L j)) := by rw [hV]; exact oj
      have UX : Hid (IntsAt V (.slice ax 2 cx) x) := Lib.hid (by rw [hV]; exact hux)
      have b1' : Below V.heap.size V (wr.alloc (.cells #[] 3)) := by rw [hV]; exact b1
      have o1' : OwnInts (wr.alloc (.cells #[] 3)) V.heap.size (.slice (some ⟨wr.heap.size, 0, none⟩) 0 0) ((Perms.img p x).take 0) := by rw [hV]; exact o1
      clear hV hux hcx
      go_loopg [8, 21] 2 (fun gg u8 u21 w2 => ∃ (i : Nat), u21 = .int .i64 i ∧ OwnInts w2 V.heap.size u8 ((Perms.img p x).take i) ∧ Below V.heap.size V w2 ∧ i + gg = 2)
      case atStart => exact ⟨0, rfl, o1', b1', rfl⟩
      case round =>
        obtain ⟨i, rfl, oi, bi, hi⟩ := hrel
        obtain ⟨a8, c8, rfl, _, _, _⟩ := Own.form oi
        have bwi := BJ.trans (bi.mono BJ.size)
        by_cases hi2 : i < 2
        · have hiI : (i : Int) < 2 := by omega
          obtain ⟨bx, ox, q, rfl, hq, hcq⟩ := (UX.out.below bi).cell (k := i) (by rw [hxl'.out]; exact hi2)
          obtain ⟨hq0, hq1⟩ := hxr.out q (List.mem_of_getElem? hq.out)
          obtain ⟨m, rfl⟩ : ∃ m : Nat, q = m := ⟨q.toNat, by omega⟩
          obtain ⟨bp, op, y, rfl, hy, hcy⟩ := (hp0.out.below bwi).cell (k := m) (by rw [hpl'.out]; omega)
          have hmI : (m : Int) < p.length := by rw [hpl'.out]; omega
          have hil : ((Perms.img p x).take i).length ≤ 2 := by rw [List.length_take]; omega
          have hst2 : Hid ((Perms.img p x).take (i + 1) = (Perms.img p x).take i ++ [y]) := Lib.hid (by
            unfold Perms.img
            rw [List.take_add_one, List.getElem?_map, hq.out]
            simp [List.getD, hy.out])
          go_wp2_with (at_builtin; refine app_int rfl (.tmp 25) (.tmp 30) rfl rfl (OwnInts.below oi (below_alloc wr _)) rfl (cell_new _ _ _) (by omega) (by have := bi.size; simp; omega) ?_; intro v3 w3 o3 g3)
          rw [← hst2.out] at o3
          have bi3 := (bi.alloc bi.size (.cells #[.int .i64 y] 3)).grown g3 (by have := bi.size; simp; omega) (fun b hb => (Own.lt oi hb).1)
          go_roundg (gk - 1)
          case measure => omega
          case rel => exact ⟨i + 1, by go_num, o3, bi3, by omega⟩
        · obtain rfl : i = 2 := by omega
          have hil2 : (Perms.img p x).length = 2 := by unfold Perms.img; rw [List.length_map]; exact hxl'.out
          have e2 : (Perms.img p x).take 2 = Perms.img p x := List.take_of_length_le (by omega)
          rw [e2] at oi ⊢
          obtain ⟨Y, hY⟩ : ∃ Y, Y = Perms.img p x := ⟨_, rfl⟩
          rw [← hY] at oi hil2 hst ⊢
          have hil2' := Lib.hid hil2
          have bis := bi.size
          clear e2 hY hil2
          obtain ⟨z, hz⟩ : ∃ z, z = Perms.idx L (Perms.srt Y) := ⟨_, rfl⟩
          rw [← hz] at hst
          have hz' := Lib.hid hz
          clear hz
          have hn0 : 0 < Y.length := by rw [hil2'.out]; omega
          have hn1 : Y.length ≤ 1048576 := by rw [hil2'.out]; omega
          have hLm : L.length ≤ 1048576 := by omega
          go_wp2_with fail
          refine sortI_c oi bis hn0 hn1 ?_
          intro w3 o3 b3 _
          have bi3 := bi.trans b3
          have bw3 := BJ.trans (bi3.mono BJ.size)
          have o3' := Lib.hid (OwnInts.at o3)
          have hL3 := Lib.hid (hL0.out.below bw3)
          clear oi bi bwi hn0 hn1 b3 o3
          go_wp2_with (first
            | (refine find_i hL3.out o3'.out hasc'.out hLm ?_; intro w4 d4; rw [← hz'.out]; have bi4 := bi3.trans (d4.below _))
            | (at_builtin; refine app_int rfl (.tmp 35) (.tmp 39) rfl rfl (OwnInts.below (Own.below OJ bi4) (below_alloc w4 _)) rfl (cell_new _ _ _) (by omega) (by have := BJ.size; have := bi4.size; simp; omega) ?_; intro v5 w5 o5 g5))
          rw [← hst.out] at o5
          have ba4 := below_alloc w4 (.cells #[.int .i64 z] 3)
          have bw4 := BJ.trans (bi4.mono BJ.size)
          have bw5 := (bw4.trans (ba4.mono bw4.size)).grown g5 (by have := bw4.size; simp; omega) (fun b hb => (Own.lt OJ hb).1)
          go_roundg (gk1 - 1)
          case measure => omega
          case rel => exact ⟨j + 1, by go_num, o5, bw5, by omega, by omega⟩
    · have hje : j = L.length := by omega
      have h2 : OwnInts wr w.heap.size (.slice a5 (ints (Perms.mvTo p L j)).length c5) (Perms.mvTo p L L.length) := by rw [← hje]; exact oj
      have h3 := Lib.hid (H.out _ wr h2 bj)
      clear h2
      go_wp2_with fail
      exact h3.out
theorem Perms.subs_asc : Perms.Asc (Perms.subs 2 0) := by
  have h : (Perms.subs 2 0).Pairwise fun a b => Words.cmpL a b < 0 := by decide
  intro i j a b hij ha hb
  obtain ⟨h1, rfl⟩ := List.getElem?_eq_some_iff.1 ha
  obtain ⟨h2, rfl⟩ := List.getElem?_eq_some_iff.1 hb
  exact (List.pairwise_iff_getElem.1 h) i j h1 h2 hij
theorem Perms.subs_rng2 : ∀ x ∈ Perms.subs 2 0, x.length = 2 ∧ ∀ c ∈ x, 0 ≤ c ∧ c < ((4 : Nat) : Int) := by decide
theorem PairAction_i {vp : Value} {p : List Int} {w : World} {Q : Ending → World → Prop} (hp : IntsAt w vp p) (hpl : p.length = 4) (hok : Perms.permB p = true)
    (hQ : ∀ v w', OwnInts w' w.heap.size v (Perms.mvAct p) → Below w.heap.size w w' → Q (.returned (.tuple #[v, .bool true])) w') :
    Calls Tryz.prog 32 #[vp] w Q := by
  have H := Lib.hid hQ; clear hQ
  have hp0 := Lib.hid hp
  obtain ⟨ap, cp, rfl, lp, lcp, ccp⟩ := hp.form
  have hpl' := Lib.hid hpl
  have hok' := Lib.hid hok
  rw [hpl] at hp0 lp lcp ⊢
  clear hp hpl hok
  go_enter Tryz.func32, Tryz.ntmps32
  go_wp2_with fail
  refine PermOk_i hp0.out ?_
  intro w1 b1
  rw [hok'.out]
  have hp1 := Lib.hid (hp0.out.below b1)
  go_wp2_with fail
  refine PairsOf_c ?_
  intro v2 w2 o2 b2
  have hp2 := Lib.hid (hp1.out.below b2)
  have o2' := Lib.hid o2.at
  have bw2 := b1.trans (b2.mono b1.size)
  have h6 : (Perms.subs 2 0).length ≤ 64 := by decide
  obtain ⟨a2, c2, rfl, _, _, _⟩ := o2.form
  clear o2
  go_wp2_with fail
  refine moved_c o2'.out hp2.out hpl'.out h6 Perms.subs_asc Perms.subs_rng2 ?_
  intro v3 w3 o3 b3
  have h3 := Lib.hid (H.out v3 w3 (OwnInts.mono o3 bw2.size) (bw2.trans (b3.mono bw2.size)))
  obtain ⟨a3, c3, rfl, _, _, _⟩ := Own.form o3
  go_wp2_with fail
  exact h3.out
end Go.Proofs.YtdjdagcgodpgdaaGreat
