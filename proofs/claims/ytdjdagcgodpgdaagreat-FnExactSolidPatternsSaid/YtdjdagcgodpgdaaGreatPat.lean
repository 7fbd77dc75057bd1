/-
  The least image of a coloring.
-/
import Derived.Test.YtdjdagcgodpgdaaGreatGrp2
import Derived.Test.YtdjdagcgodpgdaaGreatPats
set_option linter.unusedVariables false
namespace Go.Proofs.YtdjdagcgodpgdaaGreat
open Go.RowKit

set_option maxHeartbeats 800000 in
theorem canon_i {vg vl : Value} {g : List (List Int)} {l : List Int} {w : World} {Q : Ending → World → Prop} (hg : RowsAt w vg g) (hl : IntsAt w vl l) (hf : Perms.Fit g l)
    (hQ : ∀ v w', OwnInts w' w.heap.size v (Perms.canon g l) → Below w.heap.size w w' → Q (.returned v) w') :
    Calls Tryz.prog 43 #[vg, vl] w Q := by
  have H := Lib.hid hQ; clear hQ
  obtain ⟨hf1, hf2, hf3⟩ := hf
  have hf1' := Lib.hid hf1
  clear hf1
  obtain ⟨aa, ca, rfl, la, lca, cca⟩ := hg.form
  obtain ⟨al, cl, rfl, ll, lcl, ccl⟩ := hl.form
  go_enter Tryz.func43, Tryz.ntmps43
  go_wp2_with fail
  go_loopg [5, 12] g.length (fun k b i wr => Below w.heap.size w wr ∧ ∃ j : Nat, i = .int .i64 j ∧ IntsAt wr b (Perms.canonTo g l j) ∧ j + k ≤ g.length ∧ g.length ≤ j + k)
  case atStart => exact ⟨Below.refl _ _, 0, rfl, hl, by omega, by omega⟩
  case round =>
    obtain ⟨hbw, j, rfl, ho, hk1, hk2⟩ := hrel
    by_cases hj : j < g.length
    · have i1 : (j : Int) < g.length := by omega
      obtain ⟨b, off, u, p, rfl, hx, hcw, hip⟩ := hg.cell hj
      have hc := below_cells hbw _ _ hcw
      obtain ⟨fp1, fp2⟩ := hf1'.out p (List.mem_of_getElem? hx.out)
      have fp1' := Lib.hid fp1
      have fp2' := Lib.hid fp2
      clear fp1 fp2
      have es := Lib.hid (Perms.canonTo_step (l := l) hx.out)
      have el := Lib.hid (Perms.canonTo_len g l j)
      go_wp2_with fail
      refine act_i (hip.below hbw) (hl.below hbw) (by omega) fp1'.out fp2'.out ?_
      intro v2 w2 o2 b2
      have hbw2 : Below w.heap.size w w2 := hbw.trans (b2.mono hbw.size)
      have ho2 := ho.below b2
      by_cases hb : Words.cmpL (Perms.act p l) (Perms.canonTo g l j) < 0
      · have es2 := es.out
        rw [if_pos hb] at es2
        have es3 := Lib.hid es2
        clear es2 es
        go_wp2_with fail
        refine Compare_c o2.at ho2 ?_
        go_wp2_with fail
        go_roundg (gk - 1)
        case measure => omega
        case rel => exact ⟨hbw2, j + 1, by go_num, by rw [es3.out]; exact o2.at, by omega, by omega⟩
      · have es2 := es.out
        rw [if_neg hb] at es2
        have es3 := Lib.hid es2
        clear es2 es
        go_wp2_with fail
        refine Compare_c o2.at ho2 ?_
        go_wp2_with fail
        go_roundg (gk - 1)
        case measure => omega
        case rel => exact ⟨hbw2, j + 1, by go_num, by rw [es3.out]; exact ho2, by omega, by omega⟩
    · obtain rfl : j = g.length := by omega
      have el := Lib.hid (Perms.canonTo_len g l g.length)
      go_wp2_with fail
      refine Clone_c ho (by rw [el.out]; omega) ?_
      intro v3 w3 o3 b3
      go_wp2_with fail
      exact H.out _ _ (OwnInts.mono o3 hbw.size) (hbw.trans (b3.mono hbw.size))
set_option maxHeartbeats 800000 in
theorem canon_s {vg vl : Value} {g : List (List Int)} {l : List Int} {w : World} {Q : Ending → World → Prop} (hg : RowsAt w vg g) (hl : IntsAt w vl l) (hf : Perms.Fit g l)
    (hQ : ∀ v w', OwnInts w' w.heap.size v (Perms.canon g l) → Below w.heap.size w w' → Q (.returned v) w') :
    Calls Tryz.prog 60 #[vg, vl] w Q := by
  have H := Lib.hid hQ; clear hQ
  obtain ⟨hf1, hf2, hf3⟩ := hf
  have hf1' := Lib.hid hf1
  clear hf1
  obtain ⟨aa, ca, rfl, la, lca, cca⟩ := hg.form
  obtain ⟨al, cl, rfl, ll, lcl, ccl⟩ := hl.form
  go_enter Tryz.func60, Tryz.ntmps60
  go_wp2_with fail
  go_loopg [5, 12] g.length (fun k b i wr => Below w.heap.size w wr ∧ ∃ j : Nat, i = .int .i64 j ∧ IntsAt wr b (Perms.canonTo g l j) ∧ j + k ≤ g.length ∧ g.length ≤ j + k)
  case atStart => exact ⟨Below.refl _ _, 0, rfl, hl, by omega, by omega⟩
  case round =>
    obtain ⟨hbw, j, rfl, ho, hk1, hk2⟩ := hrel
    by_cases hj : j < g.length
    · have i1 : (j : Int) < g.length := by omega
      obtain ⟨b, off, u, p, rfl, hx, hcw, hip⟩ := hg.cell hj
      have hc := below_cells hbw _ _ hcw
      obtain ⟨fp1, fp2⟩ := hf1'.out p (List.mem_of_getElem? hx.out)
      have fp1' := Lib.hid fp1
      have fp2' := Lib.hid fp2
      clear fp1 fp2
      have es := Lib.hid (Perms.canonTo_step (l := l) hx.out)
      have el := Lib.hid (Perms.canonTo_len g l j)
      go_wp2_with fail
      refine act_s (hip.below hbw) (hl.below hbw) (by omega) fp1'.out fp2'.out ?_
      intro v2 w2 o2 b2
      have hbw2 : Below w.heap.size w w2 := hbw.trans (b2.mono hbw.size)
      have ho2 := ho.below b2
      by_cases hb : Words.cmpL (Perms.act p l) (Perms.canonTo g l j) < 0
      · have es2 := es.out
        rw [if_pos hb] at es2
        have es3 := Lib.hid es2
        have hls : Hid (Words.less (Perms.act p l) (Perms.canonTo g l j) = true) := Lib.hid ((Words.less_neg (by rw [Perms.act_len, Perms.canonTo_len])).2 hb)
        clear es2 es hb
        go_wp2_with fail
        refine l03Less_c o2.at ho2 (by rw [Perms.act_len, el.out]) ?_
        rw [hls.out]
        go_wp2_with fail
        go_roundg (gk - 1)
        case measure => omega
        case rel => exact ⟨hbw2, j + 1, by go_num, by rw [es3.out]; exact o2.at, by omega, by omega⟩
      · have es2 := es.out
        rw [if_neg hb] at es2
        have es3 := Lib.hid es2
        have hls : Hid (Words.less (Perms.act p l) (Perms.canonTo g l j) = false) := Lib.hid (by
          cases hc2 : Words.less (Perms.act p l) (Perms.canonTo g l j) with
          | false => rfl
          | true => exact absurd ((Words.less_neg (by rw [Perms.act_len, Perms.canonTo_len])).1 hc2) hb)
        clear es2 es hb
        go_wp2_with fail
        refine l03Less_c o2.at ho2 (by rw [Perms.act_len, el.out]) ?_
        rw [hls.out]
        go_wp2_with fail
        go_roundg (gk - 1)
        case measure => omega
        case rel => exact ⟨hbw2, j + 1, by go_num, by rw [es3.out]; exact ho2, by omega, by omega⟩
    · obtain rfl : j = g.length := by omega
      have el := Lib.hid (Perms.canonTo_len g l g.length)
      have hm := hbw.size
      go_wp2_with (at_builtin; refine app_ints rfl (.tmp 24) (.tmp 25) rfl rfl (own_empty wr) rfl (ho.below (below_alloc wr _)) (by rw [el.out]; simp; omega) (by simp) ?_; intro v3 w3 o3 g3; change World.grownBy _ w3 (some wr.heap.size) at g3; have b3 : Below wr.heap.size wr w3 := (below_alloc wr _).grown g3 (by simp) (by intro k hk; cases hk; exact Nat.le_refl _))
      exact H.out _ _ (OwnInts.mono o3 hm) (hbw.trans (b3.mono hm))
end Go.Proofs.YtdjdagcgodpgdaaGreat
